/- Texts of ours, joined: YteegphdelekdaaaGreatH1 YteegphdelekdaaaGreatH2 YteegphdelekdaaaGreatB1 YteegphdelekdaaaGreatH4 YteegphdelekdaaaGreatH5 YteegphdelekdaaaGreatH6. -/
import Derived.Test.YteegphdelekdaaaGreatFn
import Derived.Test.YteegphdelekdaaaGreatAbs3
import Derived.IntWalk
set_option linter.unusedVariables false
set_option linter.unusedSimpArgs false
namespace Go.Proofs.YteegphdelekdaaaGreat
open Go.Abs Go.IntWalk
set_option maxRecDepth 100000
abbrev I64 (n : Int) : AV := .int .i64 n
abbrev U64 (n : Nat) : AV := .int .u64 (n : Int)
def eI (l : List Int) : AV := .sl 1 (l.map I64)
def eU (l : List Nat) : AV := .sl 1 (l.map U64)
abbrev PNode := Int × Nat
def cN (x : PNode) : List AV := [I64 x.1, U64 x.2]
def eN (x : PNode) : AV := .agg (cN x)
def eNs (t : List PNode) : AV := .sl 2 (t.map eN)
abbrev PChange := Int × List PNode
def cCh (x : PChange) : List AV := [I64 x.1, eNs x.2]
def eCh (x : PChange) : AV := .agg (cCh x)
def eChs (t : List PChange) : AV := .sl 2 (t.map eCh)
abbrev PCommand := List PNode × List PChange
def cCo (x : PCommand) : List AV := [eNs x.1, eChs x.2]
def eCo (x : PCommand) : AV := .agg (cCo x)
def eCos (t : List PCommand) : AV := .sl 2 (t.map eCo)
abbrev PProg := Int × Int × List PNode × List PCommand
instance : DecidableEq PNode := inferInstanceAs (DecidableEq (Int × Nat))
instance : DecidableEq PChange := inferInstanceAs (DecidableEq (Int × List PNode))
instance : DecidableEq PCommand := inferInstanceAs (DecidableEq (List PNode × List PChange))
instance : DecidableEq PProg := inferInstanceAs (DecidableEq (Int × Int × List PNode × List PCommand))
def eP (p : PProg) : AV := .agg [I64 p.1, I64 p.2.1, eNs p.2.2.1, eCos p.2.2.2]
attribute [local go_sem] eI eU eNs eN cN eChs eCh cCh eCos eCo cCo eP
theorem bF {p : Prop} [Decidable p] (h : ¬ p) : AV.bool false = AV.bool (decide p) := by rw [decide_eq_false h]
theorem bT {p : Prop} [Decidable p] (h : p) : AV.bool true = AV.bool (decide p) := by rw [decide_eq_true h]
theorem bE {p q : Prop} [Decidable p] [Decidable q] (h : p ↔ q) : AV.bool (decide p) = AV.bool (decide q) := by rw [decide_eq_decide.2 h]
theorem take_step {α : Type} {a b : List α} {k : Nat} {x y : α} (h : a.take k = b.take k) (hx : a[k]? = some x) (hy : b[k]? = some y) (e : x = y) : a.take (k + 1) = b.take (k + 1) := by
  rw [List.take_add_one, List.take_add_one, h, hx, hy, e]
theorem drop_step {α : Type} {l : List α} {i : Nat} {x : α} (h : l[i]? = some x) : l.drop i = x :: l.drop (i + 1) := by
  obtain ⟨h1, h2⟩ := List.getElem?_eq_some_iff.1 h
  rw [List.drop_eq_getElem_cons h1, h2]
theorem get_some {α : Type} {l : List α} {i : Nat} (h : i < l.length) : ∃ x, l[i]? = some x := ⟨_, List.getElem?_eq_getElem h⟩
/-- A write at a place. -/
theorem put_len {C xs : List AV} {o : Nat} (h : o + xs.length ≤ C.length) : (C.take o ++ xs ++ C.drop (o + xs.length)).length = C.length := by
  simp only [List.length_append, List.length_take, List.length_drop]; omega
theorem put_take {C xs : List AV} {o : Nat} (h : o + xs.length ≤ C.length) : (C.take o ++ xs ++ C.drop (o + xs.length)).take (o + xs.length) = C.take o ++ xs := by
  rw [List.take_append_of_le_length (by simp only [List.length_append, List.length_take]; omega), List.take_of_length_le (by simp only [List.length_append, List.length_take]; omega)]
theorem set_take {C : List AV} {o : Nat} {x : AV} (h : o < C.length) : (C.set o x).take (o + 1) = C.take o ++ [x] := by
  rw [List.take_add_one, List.getElem?_set_self h, List.take_set_of_le (Nat.le_refl _)]
  rfl
theorem take_one {α : Type} {l : List α} {i : Nat} {x : α} (h : l[i]? = some x) : l.take (i + 1) = l.take i ++ [x] := by rw [List.take_add_one, h]; rfl
theorem reps_len (n : Nat) (zs : List AV) : (reps n zs).length = n * zs.length := by
  unfold reps
  split <;> simp
theorem res2 {α : Type} {c : α → List AV} (h1 : ∀ x, (c x).length = 2) (h2 : ∀ x, ∀ y ∈ c x, y.froz = true) {L : Nat → Bool} {H : Heap} {id ver T n : Nat} {t : List α} (hn : n = t.length) (hL : L id = false) (h : H id = .cells ver T 2 (t.flatMap c)) : Res L anyAV H (.ref id ver 0 n) (.sl 2 (t.map fun x => .agg (c x))) := by
  subst hn
  have hf : (t.map fun x => AV.agg (c x)).flatMap flat = t.flatMap c := by
    induction t with
    | nil => rfl
    | cons a t ih => rw [List.map_cons, List.flatMap_cons, List.flatMap_cons]; rw [← show (t.map fun x => AV.agg (c x)).flatMap flat = t.flatMap c from ?_]; · rfl
                     clear h ih
                     induction t with
                     | nil => rfl
                     | cons b t ih => rw [List.map_cons, List.flatMap_cons, List.flatMap_cons, ih]; rfl
  have := Res.slice (L := L) (H := H) (id := id) (ver := ver) (T := T) (sz := 2) (cs := t.flatMap c) (es := t.map fun x => .agg (c x)) hL h hf.symm
    (fun e he => by obtain ⟨x, _, rfl⟩ := List.mem_map.1 he; exact h1 x) (fun e he y hy => by obtain ⟨x, _, rfl⟩ := List.mem_map.1 he; exact h2 x y hy)
  simpa using this
/-- Small enough. -/
def smNode (x : PNode) : Prop := True
def smNodeS (t : List PNode) : Prop := t.length ≤ 1048576 ∧ ∀ x ∈ t, smNode x
def smChange (x : PChange) : Prop := smNodeS x.2
def smChangeS (t : List PChange) : Prop := t.length ≤ 1048576 ∧ ∀ x ∈ t, smChange x
def smCommand (x : PCommand) : Prop := smNodeS x.1 ∧ smChangeS x.2
def smCommandS (t : List PCommand) : Prop := t.length ≤ 1048576 ∧ ∀ x ∈ t, smCommand x
def smProgram (p : PProg) : Prop := smNodeS p.2.2.1 ∧ smCommandS p.2.2.2
theorem c_toNode {x : PNode} {H : Heap} {K : AV → Heap → Prop} (hx : smNode x) (hK : K (eN x) H) : ACall Tryz.prog 81 [eN x] H K := by
  refine ACall.pure (R := fun r _ => r = eN x) rfl ?_ fun r H' h => by subst h; exact ⟨_, .cl rfl, rfl, hK⟩
  refine call81 (by simp) ?_
  simp only [Tryz.results81, Tryz.ntmps81, Tryz.f81, Option.getD_some, pl81]
  simp only [go_sem]
theorem c_toNodeS {t : List PNode} {H : Heap} {K : AV → Heap → Prop} (ht : smNodeS t) (hK : K (eNs t) H) : ACall Tryz.prog 37 [eNs t] H K := by
  have hl := ht.1
  refine ACall.pure (R := fun r H' => ∃ v, r = .ref 7 v 0 t.length ∧ H' 7 = .cells v 94 2 (t.flatMap cN)) rfl ?_ ?_
  · refine call37 (by simp) ?_
    simp only [Tryz.results37, Tryz.ntmps37, Tryz.f37, Option.getD_some, pl37]
    simp only [go_sem]
    refine ⟨by omega, by omega, by omega, by omega, ?_⟩
    refine ALoop.intro (pl := pl37) (fun k env H => ∃ (i v : Nat) (C : List AV), env 0 = eNs t ∧ env 3 = .ref 7 v 0 t.length ∧ env 4 = I64 i ∧ H 7 = .cells v 94 2 C ∧ i + k = t.length ∧ C.length = t.length * 2 ∧ C.take (i * 2) = (t.take i).flatMap cN) t.length (by kernel_rfl) ?_ ?_
    · simp only [go_sem]
      exact ⟨0, _, _, rfl, rfl, rfl, by omega, by rw [reps_len]; rfl, rfl⟩
    · rintro k env H ⟨i, v, C, e0, e3, e4, b7, hk, hC, hT⟩
      by_cases hz : (i : Int) < t.length
      · obtain ⟨x, hx⟩ := get_some (l := t) (i := i) (by omega)
        have h0 : (0 : Int) ≤ i := by omega
        have hw : IntKind.wrap .i64 ((i : Int) + 1) = i + 1 := i64_in _ (by omega)
        simp only [go_sem, pl37, e0, e3, e4, b7, hz, hx, h0]
        refine c_toNode (x := x) (ht.2 x (List.mem_of_getElem? hx)) ?_
        simp only [go_sem, pl37, e0, e3, e4, b7, hz, hx, h0, hw]
        refine ⟨by omega, k - 1, by omega, i + 1, _, _, rfl, rfl, rfl, by omega, ?_, ?_⟩
        · rw [← hC]; exact put_len (xs := cN x) (by rw [hC]; show i * 2 + 2 ≤ _; omega)
        · rw [Nat.succ_mul]
          refine (put_take (xs := cN x) (by rw [hC]; show i * 2 + 2 ≤ _; omega)).trans ?_
          rw [hT, take_one hx, List.flatMap_append]
          simp
      · simp only [go_sem, e0, e3, e4, b7, hz]
        rw [List.take_of_length_le (by omega), List.take_of_length_le (by omega)] at hT
        exact ⟨v, rfl, by rw [hT]⟩
  · rintro r H' ⟨v, rfl, h⟩
    exact ⟨_, res2 (fun _ => rfl) (fun x y hy => by simp [cN] at hy; rcases hy with rfl | rfl <;> rfl) rfl rfl h, rfl, hK⟩
theorem c_toChange {x : PChange} {H : Heap} {K : AV → Heap → Prop} (hx : smChange x) (hK : K (eCh x) H) : ACall Tryz.prog 157 [eCh x] H K := by
  refine ACall.pure (R := fun r _ => r = eCh x) rfl ?_ fun r H' h => by subst h; exact ⟨_, .cl rfl, rfl, hK⟩
  refine call157 (by simp) ?_
  simp only [Tryz.results157, Tryz.ntmps157, Tryz.f157, Option.getD_some, pl157]
  simp only [go_sem]
  refine c_toNodeS (t := x.2) hx ?_
  simp only [go_sem]
theorem c_toChangeS {t : List PChange} {H : Heap} {K : AV → Heap → Prop} (ht : smChangeS t) (hK : K (eChs t) H) : ACall Tryz.prog 135 [eChs t] H K := by
  have hl := ht.1
  refine ACall.pure (R := fun r H' => ∃ v, r = .ref 7 v 0 t.length ∧ H' 7 = .cells v 143 2 (t.flatMap cCh)) rfl ?_ ?_
  · refine call135 (by simp) ?_
    simp only [Tryz.results135, Tryz.ntmps135, Tryz.f135, Option.getD_some, pl135]
    simp only [go_sem]
    refine ⟨by omega, by omega, by omega, by omega, ?_⟩
    refine ALoop.intro (pl := pl135) (fun k env H => ∃ (i v : Nat) (C : List AV), env 0 = eChs t ∧ env 3 = .ref 7 v 0 t.length ∧ env 4 = I64 i ∧ H 7 = .cells v 143 2 C ∧ i + k = t.length ∧ C.length = t.length * 2 ∧ C.take (i * 2) = (t.take i).flatMap cCh) t.length (by kernel_rfl) ?_ ?_
    · simp only [go_sem]
      exact ⟨0, _, _, rfl, rfl, rfl, by omega, by rw [reps_len]; rfl, rfl⟩
    · rintro k env H ⟨i, v, C, e0, e3, e4, b7, hk, hC, hT⟩
      by_cases hz : (i : Int) < t.length
      · obtain ⟨x, hx⟩ := get_some (l := t) (i := i) (by omega)
        have h0 : (0 : Int) ≤ i := by omega
        have hw : IntKind.wrap .i64 ((i : Int) + 1) = i + 1 := i64_in _ (by omega)
        simp only [go_sem, pl135, e0, e3, e4, b7, hz, hx, h0]
        refine c_toChange (x := x) (ht.2 x (List.mem_of_getElem? hx)) ?_
        simp only [go_sem, pl135, e0, e3, e4, b7, hz, hx, h0, hw]
        refine ⟨by omega, k - 1, by omega, i + 1, _, _, rfl, rfl, rfl, by omega, ?_, ?_⟩
        · rw [← hC]; exact put_len (xs := cCh x) (by rw [hC]; show i * 2 + 2 ≤ _; omega)
        · rw [Nat.succ_mul]
          refine (put_take (xs := cCh x) (by rw [hC]; show i * 2 + 2 ≤ _; omega)).trans ?_
          rw [hT, take_one hx, List.flatMap_append]
          simp
      · simp only [go_sem, e0, e3, e4, b7, hz]
        rw [List.take_of_length_le (by omega), List.take_of_length_le (by omega)] at hT
        exact ⟨v, rfl, by rw [hT]⟩
  · rintro r H' ⟨v, rfl, h⟩
    exact ⟨_, res2 (fun _ => rfl) (fun x y hy => by simp [cCh] at hy; rcases hy with rfl | rfl <;> rfl) rfl rfl h, rfl, hK⟩
theorem c_toCommand {x : PCommand} {H : Heap} {K : AV → Heap → Prop} (hx : smCommand x) (hK : K (eCo x) H) : ACall Tryz.prog 108 [eCo x] H K := by
  refine ACall.pure (R := fun r _ => r = eCo x) rfl ?_ fun r H' h => by subst h; exact ⟨_, .cl rfl, rfl, hK⟩
  refine call108 (by simp) ?_
  simp only [Tryz.results108, Tryz.ntmps108, Tryz.f108, Option.getD_some, pl108]
  simp only [go_sem]
  refine c_toNodeS (t := x.1) hx.1 ?_
  simp only [go_sem]
  refine c_toChangeS (t := x.2) hx.2 ?_
  simp only [go_sem]
theorem c_toCommandS {t : List PCommand} {H : Heap} {K : AV → Heap → Prop} (ht : smCommandS t) (hK : K (eCos t) H) : ACall Tryz.prog 54 [eCos t] H K := by
  have hl := ht.1
  refine ACall.pure (R := fun r H' => ∃ v, r = .ref 7 v 0 t.length ∧ H' 7 = .cells v 110 2 (t.flatMap cCo)) rfl ?_ ?_
  · refine call54 (by simp) ?_
    simp only [Tryz.results54, Tryz.ntmps54, Tryz.f54, Option.getD_some, pl54]
    simp only [go_sem]
    refine ⟨by omega, by omega, by omega, by omega, ?_⟩
    refine ALoop.intro (pl := pl54) (fun k env H => ∃ (i v : Nat) (C : List AV), env 0 = eCos t ∧ env 3 = .ref 7 v 0 t.length ∧ env 4 = I64 i ∧ H 7 = .cells v 110 2 C ∧ i + k = t.length ∧ C.length = t.length * 2 ∧ C.take (i * 2) = (t.take i).flatMap cCo) t.length (by kernel_rfl) ?_ ?_
    · simp only [go_sem]
      exact ⟨0, _, _, rfl, rfl, rfl, by omega, by rw [reps_len]; rfl, rfl⟩
    · rintro k env H ⟨i, v, C, e0, e3, e4, b7, hk, hC, hT⟩
      by_cases hz : (i : Int) < t.length
      · obtain ⟨x, hx⟩ := get_some (l := t) (i := i) (by omega)
        have h0 : (0 : Int) ≤ i := by omega
        have hw : IntKind.wrap .i64 ((i : Int) + 1) = i + 1 := i64_in _ (by omega)
        simp only [go_sem, pl54, e0, e3, e4, b7, hz, hx, h0]
        refine c_toCommand (x := x) (ht.2 x (List.mem_of_getElem? hx)) ?_
        simp only [go_sem, pl54, e0, e3, e4, b7, hz, hx, h0, hw]
        refine ⟨by omega, k - 1, by omega, i + 1, _, _, rfl, rfl, rfl, by omega, ?_, ?_⟩
        · rw [← hC]; exact put_len (xs := cCo x) (by rw [hC]; show i * 2 + 2 ≤ _; omega)
        · rw [Nat.succ_mul]
          refine (put_take (xs := cCo x) (by rw [hC]; show i * 2 + 2 ≤ _; omega)).trans ?_
          rw [hT, take_one hx, List.flatMap_append]
          simp
      · simp only [go_sem, e0, e3, e4, b7, hz]
        rw [List.take_of_length_le (by omega), List.take_of_length_le (by omega)] at hT
        exact ⟨v, rfl, by rw [hT]⟩
  · rintro r H' ⟨v, rfl, h⟩
    exact ⟨_, res2 (fun _ => rfl) (fun x y hy => by simp [cCo] at hy; rcases hy with rfl | rfl <;> rfl) rfl rfl h, rfl, hK⟩
theorem c_toProgram {x : PProg} {H : Heap} {K : AV → Heap → Prop} (hx : smProgram x) (hK : K (eP x) H) : ACall Tryz.prog 14 [eP x] H K := by
  refine ACall.pure (R := fun r _ => r = eP x) rfl ?_ fun r H' h => by subst h; exact ⟨_, .cl rfl, rfl, hK⟩
  refine call14 (by simp) ?_
  simp only [Tryz.results14, Tryz.ntmps14, Tryz.f14, Option.getD_some, pl14]
  simp only [go_sem]
  refine c_toNodeS (t := x.2.2.1) hx.1 ?_
  simp only [go_sem]
  refine c_toCommandS (t := x.2.2.2) hx.2 ?_
  simp only [go_sem]
end Go.Proofs.YteegphdelekdaaaGreat

set_option linter.unusedVariables false
set_option linter.unusedSimpArgs false
namespace Go.Proofs.YteegphdelekdaaaGreat
open Go.Abs Go.IntWalk
set_option maxRecDepth 100000
attribute [local go_sem] eI eU eNs eN cN eChs eCh cCh eCos eCo cCo eP
theorem c_eqNode {x y : PNode} {H : Heap} {K : AV → Heap → Prop} (hx : smNode x) (hy : smNode y) (hK : K (.bool (decide (x = y))) H) : ACall Tryz.prog 86 [eN x, eN y] H K := by
  refine ACall.pure (R := fun r _ => r = .bool (decide (x = y))) rfl ?_ fun r H' h => by subst h; exact ⟨_, .cl rfl, rfl, hK⟩
  refine call86 (by simp) ?_
  simp only [Tryz.results86, Tryz.ntmps86, Tryz.f86, Option.getD_some, pl86]
  simp only [go_sem]
  obtain ⟨o1, n1⟩ := x
  obtain ⟨o2, n2⟩ := y
  by_cases h1 : o1 = o2
  · by_cases h2 : (n1 : Int) = n2
    · simp only [go_sem, h1, h2]
      exact bT (by simp [h1, Int.natCast_inj.1 h2])
    · simp only [go_sem, h1, h2]
      exact bF fun e => h2 (by injection e with _ e; rw [e])
  · simp only [go_sem, h1]
    exact bF fun e => h1 (by injection e)
theorem c_eqNodeS {a b : List PNode} {H : Heap} {K : AV → Heap → Prop} (ha : smNodeS a) (hb : smNodeS b) (hK : K (.bool (decide (a = b))) H) : ACall Tryz.prog 39 [eNs a, eNs b] H K := by
  have hl := ha.1
  have hl2 := hb.1
  refine ACall.pure (R := fun r _ => r = .bool (decide (a = b))) rfl ?_ fun r H' h => by subst h; exact ⟨_, .cl rfl, rfl, hK⟩
  refine call39 (by simp) ?_
  simp only [Tryz.results39, Tryz.ntmps39, Tryz.f39, Option.getD_some, pl39]
  by_cases hlen : (a.length : Int) = b.length
  · simp only [go_sem, hlen]
    refine ALoop.intro (pl := pl39) (fun k env H => ∃ i : Nat, env 0 = eNs a ∧ env 1 = eNs b ∧ env 5 = I64 i ∧ i + k = a.length ∧ a.take i = b.take i) a.length (by kernel_rfl) ?_ ?_
    · simp only [go_sem]
      exact ⟨0, rfl, by omega, rfl⟩
    · rintro k env H ⟨i, e0, e1, e5, hk, ht⟩
      by_cases hz : (i : Int) < a.length
      · obtain ⟨x, hx⟩ := get_some (l := a) (i := i) (by omega)
        obtain ⟨y, hy⟩ := get_some (l := b) (i := i) (by omega)
        have hw : IntKind.wrap .i64 ((i : Int) + 1) = i + 1 := i64_in _ (by omega)
        have h0 : (0 : Int) ≤ i := by omega
        simp only [go_sem, pl39, e0, e1, e5, hz, hx, hy, h0]
        refine c_eqNode (x := x) (y := y) (ha.2 x (List.mem_of_getElem? hx)) (hb.2 y (List.mem_of_getElem? hy)) ?_
        by_cases hxy : x = y
        · simp only [go_sem, pl39, e0, e1, e5, hz, hx, hy, h0, hxy, hw]
          exact ⟨k - 1, by omega, i + 1, rfl, by omega, take_step ht hx hy hxy⟩
        · simp only [go_sem, pl39, e0, e1, e5, hz, hx, hy, h0, hxy]
          exact bF fun e => by rw [e, hy] at hx; injection hx with hx; exact hxy hx.symm
      · simp only [go_sem, e0, e1, e5, hz]
        exact bT (by rw [← List.take_of_length_le (l := a) (i := i) (by omega), ht, List.take_of_length_le (by omega)])
  · simp only [go_sem, hlen]
    exact bF fun e => hlen (by rw [e])
theorem c_eqChange {x y : PChange} {H : Heap} {K : AV → Heap → Prop} (hx : smChange x) (hy : smChange y) (hK : K (.bool (decide (x = y))) H) : ACall Tryz.prog 159 [eCh x, eCh y] H K := by
  refine ACall.pure (R := fun r _ => r = .bool (decide (x = y))) rfl ?_ fun r H' h => by subst h; exact ⟨_, .cl rfl, rfl, hK⟩
  refine call159 (by simp) ?_
  simp only [Tryz.results159, Tryz.ntmps159, Tryz.f159, Option.getD_some, pl159]
  simp only [go_sem]
  obtain ⟨a1, a2⟩ := x
  obtain ⟨b1, b2⟩ := y
  by_cases h1 : a1 = b1
  · simp only [go_sem, h1]
    refine c_eqNodeS (a := a2) (b := b2) hx hy ?_
    by_cases h2 : a2 = b2
    · simp only [go_sem, h2]
      exact bT (by simp [h1, h2])
    · simp only [go_sem, h2]
      exact bF fun e => h2 (by injection e)
  · simp only [go_sem, h1]
    exact bF fun e => h1 (by injection e)
theorem c_eqChangeS {a b : List PChange} {H : Heap} {K : AV → Heap → Prop} (ha : smChangeS a) (hb : smChangeS b) (hK : K (.bool (decide (a = b))) H) : ACall Tryz.prog 143 [eChs a, eChs b] H K := by
  have hl := ha.1
  have hl2 := hb.1
  refine ACall.pure (R := fun r _ => r = .bool (decide (a = b))) rfl ?_ fun r H' h => by subst h; exact ⟨_, .cl rfl, rfl, hK⟩
  refine call143 (by simp) ?_
  simp only [Tryz.results143, Tryz.ntmps143, Tryz.f143, Option.getD_some, pl143]
  by_cases hlen : (a.length : Int) = b.length
  · simp only [go_sem, hlen]
    refine ALoop.intro (pl := pl143) (fun k env H => ∃ i : Nat, env 0 = eChs a ∧ env 1 = eChs b ∧ env 5 = I64 i ∧ i + k = a.length ∧ a.take i = b.take i) a.length (by kernel_rfl) ?_ ?_
    · simp only [go_sem]
      exact ⟨0, rfl, by omega, rfl⟩
    · rintro k env H ⟨i, e0, e1, e5, hk, ht⟩
      by_cases hz : (i : Int) < a.length
      · obtain ⟨x, hx⟩ := get_some (l := a) (i := i) (by omega)
        obtain ⟨y, hy⟩ := get_some (l := b) (i := i) (by omega)
        have hw : IntKind.wrap .i64 ((i : Int) + 1) = i + 1 := i64_in _ (by omega)
        have h0 : (0 : Int) ≤ i := by omega
        simp only [go_sem, pl143, e0, e1, e5, hz, hx, hy, h0]
        refine c_eqChange (x := x) (y := y) (ha.2 x (List.mem_of_getElem? hx)) (hb.2 y (List.mem_of_getElem? hy)) ?_
        by_cases hxy : x = y
        · simp only [go_sem, pl143, e0, e1, e5, hz, hx, hy, h0, hxy, hw]
          exact ⟨k - 1, by omega, i + 1, rfl, by omega, take_step ht hx hy hxy⟩
        · simp only [go_sem, pl143, e0, e1, e5, hz, hx, hy, h0, hxy]
          exact bF fun e => by rw [e, hy] at hx; injection hx with hx; exact hxy hx.symm
      · simp only [go_sem, e0, e1, e5, hz]
        exact bT (by rw [← List.take_of_length_le (l := a) (i := i) (by omega), ht, List.take_of_length_le (by omega)])
  · simp only [go_sem, hlen]
    exact bF fun e => hlen (by rw [e])
theorem c_eqCommand {x y : PCommand} {H : Heap} {K : AV → Heap → Prop} (hx : smCommand x) (hy : smCommand y) (hK : K (.bool (decide (x = y))) H) : ACall Tryz.prog 113 [eCo x, eCo y] H K := by
  refine ACall.pure (R := fun r _ => r = .bool (decide (x = y))) rfl ?_ fun r H' h => by subst h; exact ⟨_, .cl rfl, rfl, hK⟩
  refine call113 (by simp) ?_
  simp only [Tryz.results113, Tryz.ntmps113, Tryz.f113, Option.getD_some, pl113]
  simp only [go_sem]
  obtain ⟨a1, a2⟩ := x
  obtain ⟨b1, b2⟩ := y
  refine c_eqNodeS (a := a1) (b := b1) hx.1 hy.1 ?_
  by_cases h1 : a1 = b1
  · simp only [go_sem, h1]
    refine c_eqChangeS (a := a2) (b := b2) hx.2 hy.2 ?_
    by_cases h2 : a2 = b2
    · simp only [go_sem, h2]
      exact bT (by simp [h1, h2])
    · simp only [go_sem, h2]
      exact bF fun e => h2 (by injection e)
  · simp only [go_sem, h1]
    exact bF fun e => h1 (by injection e)
theorem c_eqCommandS {a b : List PCommand} {H : Heap} {K : AV → Heap → Prop} (ha : smCommandS a) (hb : smCommandS b) (hK : K (.bool (decide (a = b))) H) : ACall Tryz.prog 58 [eCos a, eCos b] H K := by
  have hl := ha.1
  have hl2 := hb.1
  refine ACall.pure (R := fun r _ => r = .bool (decide (a = b))) rfl ?_ fun r H' h => by subst h; exact ⟨_, .cl rfl, rfl, hK⟩
  refine call58 (by simp) ?_
  simp only [Tryz.results58, Tryz.ntmps58, Tryz.f58, Option.getD_some, pl58]
  by_cases hlen : (a.length : Int) = b.length
  · simp only [go_sem, hlen]
    refine ALoop.intro (pl := pl58) (fun k env H => ∃ i : Nat, env 0 = eCos a ∧ env 1 = eCos b ∧ env 5 = I64 i ∧ i + k = a.length ∧ a.take i = b.take i) a.length (by kernel_rfl) ?_ ?_
    · simp only [go_sem]
      exact ⟨0, rfl, by omega, rfl⟩
    · rintro k env H ⟨i, e0, e1, e5, hk, ht⟩
      by_cases hz : (i : Int) < a.length
      · obtain ⟨x, hx⟩ := get_some (l := a) (i := i) (by omega)
        obtain ⟨y, hy⟩ := get_some (l := b) (i := i) (by omega)
        have hw : IntKind.wrap .i64 ((i : Int) + 1) = i + 1 := i64_in _ (by omega)
        have h0 : (0 : Int) ≤ i := by omega
        simp only [go_sem, pl58, e0, e1, e5, hz, hx, hy, h0]
        refine c_eqCommand (x := x) (y := y) (ha.2 x (List.mem_of_getElem? hx)) (hb.2 y (List.mem_of_getElem? hy)) ?_
        by_cases hxy : x = y
        · simp only [go_sem, pl58, e0, e1, e5, hz, hx, hy, h0, hxy, hw]
          exact ⟨k - 1, by omega, i + 1, rfl, by omega, take_step ht hx hy hxy⟩
        · simp only [go_sem, pl58, e0, e1, e5, hz, hx, hy, h0, hxy]
          exact bF fun e => by rw [e, hy] at hx; injection hx with hx; exact hxy hx.symm
      · simp only [go_sem, e0, e1, e5, hz]
        exact bT (by rw [← List.take_of_length_le (l := a) (i := i) (by omega), ht, List.take_of_length_le (by omega)])
  · simp only [go_sem, hlen]
    exact bF fun e => hlen (by rw [e])
theorem c_eqProgram {x y : PProg} {H : Heap} {K : AV → Heap → Prop} (hx : smProgram x) (hy : smProgram y) (hK : K (.bool (decide (x = y))) H) : ACall Tryz.prog 20 [eP x, eP y] H K := by
  refine ACall.pure (R := fun r _ => r = .bool (decide (x = y))) rfl ?_ fun r H' h => by subst h; exact ⟨_, .cl rfl, rfl, hK⟩
  refine call20 (by simp) ?_
  simp only [Tryz.results20, Tryz.ntmps20, Tryz.f20, Option.getD_some, pl20]
  simp only [go_sem]
  obtain ⟨a1, a2, a3, a4⟩ := x
  obtain ⟨b1, b2, b3, b4⟩ := y
  by_cases h1 : a1 = b1
  · by_cases h2 : a2 = b2
    · simp only [go_sem, h1, h2]
      refine c_eqNodeS (a := a3) (b := b3) hx.1 hy.1 ?_
      by_cases h3 : a3 = b3
      · simp only [go_sem, h3]
        refine c_eqCommandS (a := a4) (b := b4) hx.2 hy.2 ?_
        by_cases h4 : a4 = b4
        · simp only [go_sem, h4]
          exact bT (by simp [h1, h2, h3, h4])
        · simp only [go_sem, h4]
          exact bF fun e => h4 (by injection e with _ e; injection e with _ e; injection e)
      · simp only [go_sem, h3]
        exact bF fun e => h3 (by injection e with _ e; injection e with _ e; injection e)
    · simp only [go_sem, h1, h2]
      exact bF fun e => h2 (by injection e with _ e; injection e)
  · simp only [go_sem, h1]
    exact bF fun e => h1 (by injection e)
/-- What a length may be. -/
def bdChange (x : PChange) : Prop := x.2.length ≤ 9223372036854775807
def bdCommand (x : PCommand) : Prop := x.1.length ≤ 9223372036854775807 ∧ x.2.length ≤ 9223372036854775807 ∧ ∀ y ∈ x.2, bdChange y
def bdProgram (p : PProg) : Prop := p.2.2.1.length ≤ 9223372036854775807 ∧ p.2.2.2.length ≤ 9223372036854775807 ∧ ∀ y ∈ p.2.2.2, bdCommand y
theorem c_szNodeS {t : List PNode} {left : Int} {H : Heap} {K : AV → Heap → Prop} (hl : left ≤ 1048576) (hl0 : 0 ≤ left) (ht : t.length ≤ 9223372036854775807) (hK : ∀ r, (0 ≤ r → r ≤ left ∧ smNodeS t) → K (I64 r) H) : ACall Tryz.prog 35 [eNs t, I64 left] H K := by
  refine ACall.pure (R := fun r _ => ∃ n, r = I64 n ∧ (0 ≤ n → n ≤ left ∧ smNodeS t)) rfl ?_ fun r H' h => by obtain ⟨n, rfl, h⟩ := h; exact ⟨_, .cl rfl, rfl, hK n h⟩
  refine call35 (by simp) ?_
  simp only [Tryz.results35, Tryz.ntmps35, Tryz.f35, Option.getD_some, pl35]
  have hw : IntKind.wrap .i64 (left - (t.length : Int)) = left - t.length := i64_in _ (by omega)
  by_cases h1 : left - (t.length : Int) < 0
  · simp only [go_sem, hw, h1]
    exact ⟨_, rfl, by omega⟩
  · simp only [go_sem, hw, h1]
    exact ⟨_, rfl, fun _ => ⟨by omega, by omega, fun _ _ => trivial⟩⟩
theorem c_szChange {x : PChange} {left : Int} {H : Heap} {K : AV → Heap → Prop} (hl : left ≤ 1048576) (hl0 : 0 ≤ left) (hb : bdChange x) (hK : ∀ r, (0 ≤ r → r ≤ left ∧ smChange x) → K (I64 r) H) : ACall Tryz.prog 156 [eCh x, I64 left] H K := by
  refine ACall.pure (R := fun r _ => ∃ n, r = I64 n ∧ (0 ≤ n → n ≤ left ∧ smChange x)) rfl ?_ fun r H' h => by obtain ⟨n, rfl, h⟩ := h; exact ⟨_, .cl rfl, rfl, hK n h⟩
  refine call156 (by simp) ?_
  simp only [Tryz.results156, Tryz.ntmps156, Tryz.f156, Option.getD_some, pl156]
  simp only [go_sem]
  refine c_szNodeS (t := x.2) (left := left) (by omega) (by omega) hb fun r0 hr0 => ?_
  by_cases hn0 : r0 < 0
  · simp only [go_sem, hn0]
    exact ⟨_, rfl, by omega⟩
  have hr0 := hr0 (by omega)
  simp only [go_sem, hn0]
  exact ⟨_, rfl, fun _ => ⟨by omega, hr0.2⟩⟩
theorem c_szChangeS {t : List PChange} {left : Int} {H : Heap} {K : AV → Heap → Prop} (hl : left ≤ 1048576) (hl0 : 0 ≤ left) (ht : t.length ≤ 9223372036854775807) (hb : ∀ x ∈ t, bdChange x) (hK : ∀ r, (0 ≤ r → r ≤ left ∧ smChangeS t) → K (I64 r) H) : ACall Tryz.prog 133 [eChs t, I64 left] H K := by
  refine ACall.pure (R := fun r _ => ∃ n, r = I64 n ∧ (0 ≤ n → n ≤ left ∧ smChangeS t)) rfl ?_ fun r H' h => by obtain ⟨n, rfl, h⟩ := h; exact ⟨_, .cl rfl, rfl, hK n h⟩
  refine call133 (by simp) ?_
  simp only [Tryz.results133, Tryz.ntmps133, Tryz.f133, Option.getD_some, pl133]
  have hw : IntKind.wrap .i64 (left - (t.length : Int)) = left - t.length := i64_in _ (by omega)
  by_cases h1 : left - (t.length : Int) < 0
  · simp only [go_sem, hw, h1]
    exact ⟨_, rfl, by omega⟩
  · simp only [go_sem, hw, h1]
    refine ALoop.intro (pl := pl133) (fun k env H => ∃ (i : Nat) (n : Int), env 0 = eChs t ∧ env 1 = I64 n ∧ env 5 = I64 i ∧ i + k = t.length ∧ 0 ≤ n ∧ n ≤ left ∧ ∀ x ∈ t.take i, smChange x) t.length (by kernel_rfl) ?_ ?_
    · simp only [go_sem]
      exact ⟨0, _, rfl, rfl, by omega, by omega, by omega, by simp⟩
    · rintro k env H ⟨i, n, e0, e1, e5, hk, hn, hn2, hs⟩
      by_cases hz : (i : Int) < t.length
      · obtain ⟨x, hx⟩ := get_some (l := t) (i := i) (by omega)
        have hw2 : IntKind.wrap .i64 ((i : Int) + 1) = i + 1 := i64_in _ (by omega)
        have h0 : (0 : Int) ≤ i := by omega
        simp only [go_sem, pl133, e0, e1, e5, hz, hx, h0]
        refine c_szChange (x := x) (by omega) hn (hb x (List.mem_of_getElem? hx)) fun r hr => ?_
        by_cases hr0 : r < 0
        · simp only [go_sem, pl133, e0, e1, e5, hr0]
          exact ⟨_, rfl, by omega⟩
        · simp only [go_sem, pl133, e0, e1, e5, hr0, hw2]
          have hr := hr (by omega)
          refine ⟨k - 1, by omega, i + 1, r, rfl, rfl, by omega, by omega, by omega, ?_⟩
          intro y hy
          rw [take_one hx] at hy
          rcases List.mem_append.1 hy with hy | hy
          · exact hs y hy
          · rw [List.mem_singleton.1 hy]; exact hr.2
      · simp only [go_sem, pl133, e0, e1, e5, hz]
        rw [List.take_of_length_le (by omega)] at hs
        exact ⟨n, rfl, fun _ => ⟨hn2, by omega, hs⟩⟩
theorem c_szCommand {x : PCommand} {left : Int} {H : Heap} {K : AV → Heap → Prop} (hl : left ≤ 1048576) (hl0 : 0 ≤ left) (hb : bdCommand x) (hK : ∀ r, (0 ≤ r → r ≤ left ∧ smCommand x) → K (I64 r) H) : ACall Tryz.prog 103 [eCo x, I64 left] H K := by
  refine ACall.pure (R := fun r _ => ∃ n, r = I64 n ∧ (0 ≤ n → n ≤ left ∧ smCommand x)) rfl ?_ fun r H' h => by obtain ⟨n, rfl, h⟩ := h; exact ⟨_, .cl rfl, rfl, hK n h⟩
  refine call103 (by simp) ?_
  simp only [Tryz.results103, Tryz.ntmps103, Tryz.f103, Option.getD_some, pl103]
  simp only [go_sem]
  refine c_szNodeS (t := x.1) (left := left) (by omega) (by omega) hb.1 fun r0 hr0 => ?_
  by_cases hn0 : r0 < 0
  · simp only [go_sem, hn0]
    exact ⟨_, rfl, by omega⟩
  have hr0 := hr0 (by omega)
  simp only [go_sem, hn0]
  refine c_szChangeS (t := x.2) (left := r0) (by omega) (by omega) hb.2.1 hb.2.2 fun r1 hr1 => ?_
  by_cases hn1 : r1 < 0
  · simp only [go_sem, hn1]
    exact ⟨_, rfl, by omega⟩
  have hr1 := hr1 (by omega)
  simp only [go_sem, hn1]
  exact ⟨_, rfl, fun _ => ⟨by omega, ⟨hr0.2, hr1.2⟩⟩⟩
theorem c_szCommandS {t : List PCommand} {left : Int} {H : Heap} {K : AV → Heap → Prop} (hl : left ≤ 1048576) (hl0 : 0 ≤ left) (ht : t.length ≤ 9223372036854775807) (hb : ∀ x ∈ t, bdCommand x) (hK : ∀ r, (0 ≤ r → r ≤ left ∧ smCommandS t) → K (I64 r) H) : ACall Tryz.prog 50 [eCos t, I64 left] H K := by
  refine ACall.pure (R := fun r _ => ∃ n, r = I64 n ∧ (0 ≤ n → n ≤ left ∧ smCommandS t)) rfl ?_ fun r H' h => by obtain ⟨n, rfl, h⟩ := h; exact ⟨_, .cl rfl, rfl, hK n h⟩
  refine call50 (by simp) ?_
  simp only [Tryz.results50, Tryz.ntmps50, Tryz.f50, Option.getD_some, pl50]
  have hw : IntKind.wrap .i64 (left - (t.length : Int)) = left - t.length := i64_in _ (by omega)
  by_cases h1 : left - (t.length : Int) < 0
  · simp only [go_sem, hw, h1]
    exact ⟨_, rfl, by omega⟩
  · simp only [go_sem, hw, h1]
    refine ALoop.intro (pl := pl50) (fun k env H => ∃ (i : Nat) (n : Int), env 0 = eCos t ∧ env 1 = I64 n ∧ env 5 = I64 i ∧ i + k = t.length ∧ 0 ≤ n ∧ n ≤ left ∧ ∀ x ∈ t.take i, smCommand x) t.length (by kernel_rfl) ?_ ?_
    · simp only [go_sem]
      exact ⟨0, _, rfl, rfl, by omega, by omega, by omega, by simp⟩
    · rintro k env H ⟨i, n, e0, e1, e5, hk, hn, hn2, hs⟩
      by_cases hz : (i : Int) < t.length
      · obtain ⟨x, hx⟩ := get_some (l := t) (i := i) (by omega)
        have hw2 : IntKind.wrap .i64 ((i : Int) + 1) = i + 1 := i64_in _ (by omega)
        have h0 : (0 : Int) ≤ i := by omega
        simp only [go_sem, pl50, e0, e1, e5, hz, hx, h0]
        refine c_szCommand (x := x) (by omega) hn (hb x (List.mem_of_getElem? hx)) fun r hr => ?_
        by_cases hr0 : r < 0
        · simp only [go_sem, pl50, e0, e1, e5, hr0]
          exact ⟨_, rfl, by omega⟩
        · simp only [go_sem, pl50, e0, e1, e5, hr0, hw2]
          have hr := hr (by omega)
          refine ⟨k - 1, by omega, i + 1, r, rfl, rfl, by omega, by omega, by omega, ?_⟩
          intro y hy
          rw [take_one hx] at hy
          rcases List.mem_append.1 hy with hy | hy
          · exact hs y hy
          · rw [List.mem_singleton.1 hy]; exact hr.2
      · simp only [go_sem, pl50, e0, e1, e5, hz]
        rw [List.take_of_length_le (by omega)] at hs
        exact ⟨n, rfl, fun _ => ⟨hn2, by omega, hs⟩⟩
theorem c_szProgram {x : PProg} {left : Int} {H : Heap} {K : AV → Heap → Prop} (hl : left ≤ 1048576) (hl0 : 0 ≤ left) (hb : bdProgram x) (hK : ∀ r, (0 ≤ r → r ≤ left ∧ smProgram x) → K (I64 r) H) : ACall Tryz.prog 12 [eP x, I64 left] H K := by
  refine ACall.pure (R := fun r _ => ∃ n, r = I64 n ∧ (0 ≤ n → n ≤ left ∧ smProgram x)) rfl ?_ fun r H' h => by obtain ⟨n, rfl, h⟩ := h; exact ⟨_, .cl rfl, rfl, hK n h⟩
  refine call12 (by simp) ?_
  simp only [Tryz.results12, Tryz.ntmps12, Tryz.f12, Option.getD_some, pl12]
  simp only [go_sem]
  refine c_szNodeS (t := x.2.2.1) (left := left) (by omega) (by omega) hb.1 fun r0 hr0 => ?_
  by_cases hn0 : r0 < 0
  · simp only [go_sem, hn0]
    exact ⟨_, rfl, by omega⟩
  have hr0 := hr0 (by omega)
  simp only [go_sem, hn0]
  refine c_szCommandS (t := x.2.2.2) (left := r0) (by omega) (by omega) hb.2.1 hb.2.2 fun r1 hr1 => ?_
  by_cases hn1 : r1 < 0
  · simp only [go_sem, hn1]
    exact ⟨_, rfl, by omega⟩
  have hr1 := hr1 (by omega)
  simp only [go_sem, hn1]
  exact ⟨_, rfl, fun _ => ⟨by omega, ⟨hr0.2, hr1.2⟩⟩⟩
end Go.Proofs.YteegphdelekdaaaGreat

/- Words: what the machine's operations on uint64 are, in natural numbers. -/
set_option linter.unusedVariables false
set_option linter.unusedSimpArgs false
namespace Go.Abs
open Go.IntWalk
theorem bv_u64 (n : Nat) (h : n < 18446744073709551616) : (BitVec.ofInt IntKind.u64.bits (n : Int)).toNat = n := by
  rw [BitVec.ofInt_natCast, BitVec.toNat_ofNat]
  exact Nat.mod_eq_of_lt h
theorem u64_nat (n : Nat) (h : n < 18446744073709551616) : IntKind.u64.wrap (n : Int) = n := u64_in _ (by omega)
theorem and_u {a b : Nat} (ha : a < 18446744073709551616) (hb : b < 18446744073709551616) : abits .and .u64 (a : Int) (b : Int) = ((a &&& b : Nat) : Int) := by
  simp only [abits]
  rw [BitVec.toNat_and, bv_u64 a ha, bv_u64 b hb]
  exact u64_nat _ (Nat.lt_of_le_of_lt Nat.and_le_left ha)
theorem or_lt {a b : Nat} {k : Nat} (ha : a < 2 ^ k) (hb : b < 2 ^ k) : a ||| b < 2 ^ k := Nat.or_lt_two_pow ha hb
theorem xor_lt {a b : Nat} {k : Nat} (ha : a < 2 ^ k) (hb : b < 2 ^ k) : a ^^^ b < 2 ^ k := Nat.xor_lt_two_pow ha hb
theorem or_u {a b : Nat} (ha : a < 18446744073709551616) (hb : b < 18446744073709551616) : abits .or .u64 (a : Int) (b : Int) = ((a ||| b : Nat) : Int) := by
  simp only [abits]
  rw [BitVec.toNat_or, bv_u64 a ha, bv_u64 b hb]
  exact u64_nat _ (or_lt (k := 64) ha hb)
theorem xor_u {a b : Nat} (ha : a < 18446744073709551616) (hb : b < 18446744073709551616) : abits .xor .u64 (a : Int) (b : Int) = ((a ^^^ b : Nat) : Int) := by
  simp only [abits]
  rw [BitVec.toNat_xor, bv_u64 a ha, bv_u64 b hb]
  exact u64_nat _ (xor_lt (k := 64) ha hb)
theorem not_u {a : Nat} (ha : a < 18446744073709551616) : abits .xor .u64 (if IntKind.u64.signed then -1 else IntKind.u64.max) (a : Int) = ((18446744073709551615 - a : Nat) : Int) := by
  have e : (if IntKind.u64.signed then (-1 : Int) else IntKind.u64.max) = ((18446744073709551615 : Nat) : Int) := by decide
  rw [e, xor_u (by decide) ha]
  congr 1
  apply Nat.eq_of_testBit_eq
  intro i
  have h1 : (18446744073709551615 - a).testBit i = (2 ^ 64 - (a + 1)).testBit i := by
    congr 1; omega
  rw [h1, Nat.testBit_two_pow_sub_succ ha, Nat.testBit_xor]
  have h2 : Nat.testBit 18446744073709551615 i = decide (i < 64) := Nat.testBit_two_pow_sub_one 64 i
  rw [h2]
  by_cases hi : i < 64
  · simp [hi]
  · have : a.testBit i = false := Nat.testBit_lt_two_pow (Nat.lt_of_lt_of_le ha (Nat.pow_le_pow_right (n := 2) (by omega) (by omega : 64 ≤ i)))
    simp [hi, this]
theorem wrap_u (n : Int) : IntKind.u64.wrap n = n % 18446744073709551616 := by
  simp [IntKind.wrap, IntKind.bits, IntKind.signed]
theorem add_u (a b : Nat) : IntKind.u64.wrap ((a : Int) + b) = (((a + b) % 18446744073709551616 : Nat) : Int) := by
  rw [wrap_u]; omega
theorem mul_u (a b : Nat) : IntKind.u64.wrap ((a : Int) * b) = (((a * b) % 18446744073709551616 : Nat) : Int) := by
  rw [wrap_u, Int.natCast_emod, Int.natCast_mul]; rfl
theorem sub_u {a b : Nat} (hb : b ≤ 18446744073709551616) : IntKind.u64.wrap ((a : Int) - b) = (((a + (18446744073709551616 - b)) % 18446744073709551616 : Nat) : Int) := by
  rw [wrap_u]; omega
theorem pow_cast (k : Nat) : ((2 : Int) ^ k) = ((2 ^ k : Nat) : Int) := by simp
theorem shl_u {a k : Nat} (hk : k ≤ 64) : IntKind.u64.wrap ((a : Int) * 2 ^ (min k 64)) = (((a * 2 ^ k) % 18446744073709551616 : Nat) : Int) := by
  rw [Nat.min_eq_left hk, pow_cast, mul_u]
theorem shr_n {a k : Nat} (hk : k ≤ 64) : ((a : Int)).fdiv (2 ^ (min k 64)) = ((a / 2 ^ k : Nat) : Int) := by
  rw [Nat.min_eq_left hk, pow_cast, Int.fdiv_eq_ediv_of_nonneg _ (Int.natCast_nonneg _)]
  exact (Int.natCast_ediv _ _).symm
theorem tdiv_u {a b : Nat} (ha : a < 18446744073709551616) : IntKind.u64.wrap (((a : Int)).tdiv (b : Int)) = ((a / b : Nat) : Int) := by
  have : ((a : Int)).tdiv (b : Int) = ((a / b : Nat) : Int) := by
    rw [Int.tdiv_eq_ediv_of_nonneg (by omega)]; exact (Int.natCast_ediv _ _).symm
  rw [this]
  exact u64_nat _ (Nat.lt_of_le_of_lt (Nat.div_le_self _ _) ha)
theorem tmod_u {a b : Nat} : ((a : Int)).tmod (b : Int) = ((a % b : Nat) : Int) := by
  rw [Int.tmod_eq_emod_of_nonneg (by omega)]; exact (Int.natCast_emod _ _).symm
theorem mask_n {w : Nat} (hw : w ≤ 64) : 18446744073709551615 / 2 ^ (64 - w) = 2 ^ w - 1 := by
  have h : (2 : Nat) ^ (64 - w) * 2 ^ w = 18446744073709551616 := by rw [← Nat.pow_add, show 64 - w + w = 64 by omega]
  have hp : 0 < (2 : Nat) ^ (64 - w) := Nat.pow_pos (by omega)
  have hq : 0 < (2 : Nat) ^ w := Nat.pow_pos (by omega)
  generalize (2 : Nat) ^ (64 - w) = A at *
  generalize (2 : Nat) ^ w = B at *
  have e : 18446744073709551615 = (A - 1) + A * (B - 1) := by
    have : A * B = A * (B - 1) + A := by
      obtain ⟨c, rfl⟩ : ∃ c, B = c + 1 := ⟨B - 1, by omega⟩
      rw [Nat.mul_succ]; simp
    omega
  rw [e, Nat.add_mul_div_left _ _ hp, Nat.div_eq_of_lt (by omega)]
  omega
theorem and_mask (a w : Nat) : a &&& (2 ^ w - 1) = a % 2 ^ w := Nat.and_two_pow_sub_one_eq_mod a w
theorem pow_le64 {w : Nat} (hw : w ≤ 64) : 2 ^ w ≤ 18446744073709551616 := Nat.pow_le_pow_right (n := 2) (by omega) hw
theorem pow_dvd64 {w : Nat} (hw : w ≤ 64) : 2 ^ w ∣ 18446744073709551616 := ⟨2 ^ (64 - w), by rw [← Nat.pow_add, show w + (64 - w) = 64 by omega]⟩
theorem mod_mod64 (a : Nat) {w : Nat} (hw : w ≤ 64) : (a % 18446744073709551616) % 2 ^ w = a % 2 ^ w := Nat.mod_mod_of_dvd a (pow_dvd64 hw)
/-- The lower bits, one by one. -/
def cutGo (a : Nat) : Nat → Nat
  | 0 => 0
  | k + 1 => cutGo a k ||| (a &&& 2 ^ k)
theorem cutGo_eq (a : Nat) : ∀ k, cutGo a k = a % 2 ^ k
  | 0 => by simp [cutGo, Nat.mod_one]
  | k + 1 => by
    rw [cutGo, cutGo_eq a k]
    apply Nat.eq_of_testBit_eq
    intro i
    rw [Nat.testBit_or, Nat.testBit_and, Nat.testBit_mod_two_pow, Nat.testBit_mod_two_pow, Nat.testBit_two_pow]
    by_cases h1 : i < k
    · have h2 : ¬ k = i := by omega
      have h3 : i < k + 1 := by omega
      simp [h1, h2, h3]
    · by_cases h2 : k = i
      · subst h2; simp
      · have h3 : ¬ i < k + 1 := by omega
        simp [h1, h2, h3]
/-- The number of a word that bears a sign. -/
def sgn (w a : Nat) : Int := if a < 2 ^ (w - 1) then a else (a : Int) - 2 ^ w

theorem sgn_shift {w a : Nat} (hw : 1 ≤ w) (hw2 : w ≤ 64) (ha : a < 2 ^ w) : (IntKind.i64.wrap (((a * 2 ^ (64 - w)) % 18446744073709551616 : Nat) : Int)).fdiv (2 ^ (min (64 - w) 64)) = sgn w a := by
  have h1 : (2 : Nat) ^ (64 - w) * 2 ^ w = 18446744073709551616 := by rw [← Nat.pow_add, show 64 - w + w = 64 by omega]
  have h2 : (2 : Nat) ^ w = 2 * 2 ^ (w - 1) := by rw [← Nat.pow_succ', show (w - 1).succ = w by omega]
  have hp : 0 < (2 : Nat) ^ (64 - w) := Nat.pow_pos (by omega)
  rw [Nat.min_eq_left (by omega), pow_cast]
  unfold sgn
  have h3 : ((2 : Int) ^ w) = ((2 ^ w : Nat) : Int) := pow_cast w
  rw [h3]
  generalize (2 : Nat) ^ (64 - w) = A at *
  rw [h2] at h1 ha ⊢
  generalize (2 : Nat) ^ (w - 1) = B at *
  have h4 : A * B = 9223372036854775808 := by
    have : A * (2 * B) = 2 * (A * B) := by rw [Nat.mul_left_comm]
    omega
  have h5 : a * A < 18446744073709551616 := by
    calc a * A < 2 * B * A := Nat.mul_lt_mul_of_pos_right ha hp
      _ = A * (2 * B) := Nat.mul_comm _ _
      _ = _ := h1
  rw [Nat.mod_eq_of_lt h5, Int.fdiv_eq_ediv_of_nonneg _ (Int.natCast_nonneg _)]
  split
  · rename_i h
    have h6 : a * A < 9223372036854775808 := by
      calc a * A < B * A := Nat.mul_lt_mul_of_pos_right h hp
        _ = A * B := Nat.mul_comm _ _
        _ = _ := h4
    rw [i64_in _ (by omega), ← Int.natCast_ediv, Nat.mul_div_cancel _ hp]
  · rename_i h
    have h6 : 9223372036854775808 ≤ a * A := by
      calc 9223372036854775808 = A * B := h4.symm
        _ = B * A := Nat.mul_comm _ _
        _ ≤ a * A := Nat.mul_le_mul_right _ (by omega)
    have h7 : IntKind.i64.wrap ((a * A : Nat) : Int) = ((a : Int) - ((2 * B : Nat) : Int)) * A := by
      rw [IntKind.wrap_i64]
      have e : ((a : Int) - ((2 * B : Nat) : Int)) * A = ((a * A : Nat) : Int) - 18446744073709551616 := by
        rw [Int.sub_mul, ← Int.natCast_mul, ← Int.natCast_mul, Nat.mul_comm (2 * B) A, h1]; rfl
      rw [e]; omega
    rw [h7, Int.mul_ediv_cancel _ (by omega)]
theorem sgn_or {w a : Nat} (hw : 1 ≤ w) (hw2 : w ≤ 64) (ha : a < 2 ^ w) : (if (a / 2 ^ (w - 1)) % 2 = 1 then IntKind.i64.wrap ((a ||| (18446744073709551615 - (2 ^ w - 1)) : Nat) : Int) else IntKind.i64.wrap (a : Int)) = sgn w a := by
  have h2 : (2 : Nat) ^ w = 2 * 2 ^ (w - 1) := by rw [← Nat.pow_succ', show (w - 1).succ = w by omega]
  have h3 : ((2 : Int) ^ w) = ((2 ^ w : Nat) : Int) := pow_cast w
  have h6 := pow_le64 hw2
  have hp : 0 < (2 : Nat) ^ (w - 1) := Nat.pow_pos (by omega)
  have hor : a ||| (18446744073709551615 - (2 ^ w - 1)) = a + (18446744073709551616 - 2 ^ w) := by
    have e1 : 18446744073709551615 - (2 ^ w - 1) = 18446744073709551616 - 2 ^ w := by omega
    have e2 : 18446744073709551616 - 2 ^ w = 2 ^ w * (2 ^ (64 - w) - 1) := by
      have h1 : 2 ^ w * 2 ^ (64 - w) = 18446744073709551616 := by rw [← Nat.pow_add, show w + (64 - w) = 64 by omega]
      rw [Nat.mul_sub, h1, Nat.mul_one]
    have := Nat.two_pow_add_eq_or_of_lt ha (2 ^ (64 - w) - 1)
    rw [e1, e2, Nat.or_comm, ← this, Nat.add_comm]
  rw [hor]
  unfold sgn
  rw [h3]
  rw [h2] at ha h6 ⊢
  generalize (2 : Nat) ^ (w - 1) = B at *
  by_cases h : a < B
  · have : a / B = 0 := Nat.div_eq_of_lt h
    rw [this, if_neg (by omega), if_pos h]
    exact i64_in _ (by omega)
  · have : a / B = 1 := by
      have h1 : a = B + (a - B) := by omega
      rw [h1, Nat.add_div_left _ hp, Nat.div_eq_of_lt (by omega)]
    rw [this, if_pos (by omega), if_neg h, IntKind.wrap_i64]
    omega
end Go.Abs

set_option linter.unusedVariables false
set_option linter.unusedSimpArgs false
namespace Go.Proofs.YteegphdelekdaaaGreat
open Go.Abs Go.IntWalk
set_option maxRecDepth 100000
attribute [local go_sem] eI eU eNs eN cN eChs eCh cCh eCos eCo cCo eP
/-- A function of plain numbers. -/
theorem pureC {g : FuncId} {args : List AV} {r : AV} {H : Heap} {K : AV → Heap → Prop} (hc : closedL args = true) (hr : r.closed = true) (h : ACall Tryz.prog g args H0 fun x _ => x = r) (hK : K r H) : ACall Tryz.prog g args H K :=
  ACall.pure hc h fun r' H' e => by subst e; exact ⟨_, .cl hr, hr, hK⟩
def wideOk (n : Int) : Prop := 1 ≤ n ∧ n ≤ 64
instance (n : Int) : Decidable (wideOk n) := by unfold wideOk; infer_instance
def gw (n : Int) (a : Nat) : Prop := wideOk n ∧ a < 2 ^ n.toNat
instance (n : Int) (a : Nat) : Decidable (gw n a) := by unfold gw; infer_instance
theorem wide_nat {n : Int} (h : wideOk n) : ∃ w : Nat, n = (w : Int) ∧ 1 ≤ w ∧ w ≤ 64 := ⟨n.toNat, by unfold wideOk at h; omega, by unfold wideOk at h; omega, by unfold wideOk at h; omega⟩
theorem i64_nat (n : Nat) (h : n ≤ 9223372036854775807) : IntKind.i64.wrap (n : Int) = n := i64_in _ (by omega)
theorem c_in {n lo hi : Int} {H : Heap} {K : AV → Heap → Prop} (hK : K (.bool (decide (lo ≤ n ∧ n ≤ hi))) H) : ACall Tryz.prog 67 [I64 n, I64 lo, I64 hi] H K := by
  refine pureC rfl rfl ?_ hK
  refine call67 (by simp) ?_
  simp only [Tryz.results67, Tryz.ntmps67, Tryz.f67, Option.getD_some, pl67]
  by_cases h : lo ≤ n
  · simp only [go_sem, h, true_and]
  · simp only [go_sem, h, false_and]
theorem c_wideI {n : Int} {H : Heap} {K : AV → Heap → Prop} (hK : K (.bool (decide (wideOk n))) H) : ACall Tryz.prog 136 [I64 n] H K := by
  refine pureC rfl rfl ?_ hK
  refine call136 (by simp) ?_
  simp only [Tryz.results136, Tryz.ntmps136, Tryz.f136, Option.getD_some, pl136]
  by_cases h : 1 ≤ n
  · simp only [go_sem, h]
    exact bE (by simp [wideOk, h])
  · simp only [go_sem, h]
    exact bF (by simp [wideOk, h])
theorem c_wideS {n : Int} {H : Heap} {K : AV → Heap → Prop} (hK : K (.bool (decide (wideOk n))) H) : ACall Tryz.prog 147 [I64 n] H K := by
  refine pureC rfl rfl ?_ hK
  refine call147 (by simp) ?_
  simp only [Tryz.results147, Tryz.ntmps147, Tryz.f147, Option.getD_some, pl147]
  simp only [go_sem]
  refine c_in ?_
  simp only [go_sem]
  rfl
theorem c_mask {w : Nat} (h1 : 1 ≤ w) (h2 : w ≤ 64) {H : Heap} {K : AV → Heap → Prop} (hK : K (U64 (2 ^ w - 1)) H) : ACall Tryz.prog 123 [I64 w] H K := by
  refine pureC rfl rfl ?_ hK
  refine call123 (by simp) ?_
  simp only [Tryz.results123, Tryz.ntmps123, Tryz.f123, Option.getD_some, pl123]
  have hw : IntKind.wrap .i64 (64 - (w : Int)) = ((64 - w : Nat) : Int) := (i64_in _ (by omega)).trans (by omega)
  have h0 : (0 : Int) ≤ ((64 - w : Nat) : Int) := by omega
  have e := shr_n (a := 18446744073709551615) (k := 64 - w) (by omega)
  rw [mask_n h2] at e
  simp only [go_sem, hw, h0]
  exact congrArg (AV.int .u64) e
/-- The lower bits. -/
theorem c_cut {w a : Nat} (hw : w ≤ 64) (ha : a < 18446744073709551616) {H : Heap} {K : AV → Heap → Prop} (hK : K (U64 (a % 2 ^ w)) H) : ACall Tryz.prog 150 [I64 w, U64 a] H K := by
  refine pureC rfl rfl ?_ hK
  refine call150 (by simp) ?_
  simp only [Tryz.results150, Tryz.ntmps150, Tryz.f150, Option.getD_some, pl150]
  simp only [go_sem]
  refine ALoop.intro (pl := pl150) (fun k env H => ∃ i : Nat, env 0 = I64 w ∧ env 1 = U64 a ∧ env 5 = U64 (a % 2 ^ i) ∧ env 6 = I64 i ∧ i + k = w) w (by kernel_rfl) ?_ ?_
  · simp only [go_sem]
    exact ⟨0, by rw [Nat.pow_zero, Nat.mod_one]; rfl, rfl, by omega⟩
  · rintro k env H ⟨i, e0, e1, e5, e6, hk⟩
    by_cases hz : (i : Int) < w
    · have hw1 : IntKind.wrap .i64 ((i : Int) + 1) = ((i + 1 : Nat) : Int) := (i64_in _ (by omega)).trans (by omega)
      have hw2 : IntKind.wrap .u64 (i : Int) = i := u64_in _ (by omega)
      have h0 : (0 : Int) ≤ i := by omega
      have hp : 2 ^ i < 18446744073709551616 := Nat.lt_of_lt_of_le (Nat.pow_lt_pow_right (by omega : 1 < 2) (by omega : i < 64)) (Nat.le_refl _)
      have e3 : IntKind.u64.wrap (1 * 2 ^ min i 64) = ((2 ^ i : Nat) : Int) := by
        have := shl_u (a := 1) (k := i) (by omega)
        rw [Nat.one_mul, Nat.mod_eq_of_lt hp] at this
        exact this
      have e4 := and_u ha hp
      have hm : a % 2 ^ i < 18446744073709551616 := Nat.lt_of_le_of_lt (Nat.mod_le _ _) ha
      have e7 := or_u hm (Nat.lt_of_le_of_lt (Nat.and_le_left (n := a) (m := 2 ^ i)) ha)
      have e8 : a % 2 ^ i ||| (a &&& 2 ^ i) = a % 2 ^ (i + 1) := by rw [← cutGo_eq, ← cutGo_eq, cutGo]
      rw [e8] at e7
      simp only [go_sem, pl150, e0, e1, e5, e6, hz, hw1, hw2, h0, e3, e4, e7]
      exact ⟨k - 1, by omega, i + 1, rfl, rfl, by omega⟩
    · simp only [go_sem, e0, e1, e5, e6, hz]
      have : i = w := by omega
      rw [this]
theorem c_gwI {n : Int} {a : Nat} (ha : a < 18446744073709551616) {H : Heap} {K : AV → Heap → Prop} (hK : K (.bool (decide (gw n a))) H) : ACall Tryz.prog 142 [I64 n, U64 a] H K := by
  refine pureC rfl rfl ?_ hK
  refine call142 (by simp) ?_
  simp only [Tryz.results142, Tryz.ntmps142, Tryz.f142, Option.getD_some, pl142]
  simp only [go_sem]
  refine c_wideI ?_
  by_cases h : wideOk n
  · obtain ⟨w, rfl, h1, h2⟩ := wide_nat h
    simp only [go_sem, h]
    refine c_mask h1 h2 ?_
    simp only [go_sem]
    have hp : 0 < 2 ^ w := Nat.pow_pos (by omega)
    exact bE (by simp only [gw, h, true_and, Int.toNat_natCast]; omega)
  · simp only [go_sem, h]
    exact bF fun e => h e.1
theorem c_gwS {n : Int} {a : Nat} (ha : a < 18446744073709551616) {H : Heap} {K : AV → Heap → Prop} (hK : K (.bool (decide (gw n a))) H) : ACall Tryz.prog 134 [I64 n, U64 a] H K := by
  refine pureC rfl rfl ?_ hK
  refine call134 (by simp) ?_
  simp only [Tryz.results134, Tryz.ntmps134, Tryz.f134, Option.getD_some, pl134]
  simp only [go_sem]
  refine c_wideS ?_
  by_cases h : wideOk n
  · obtain ⟨w, rfl, h1, h2⟩ := wide_nat h
    simp only [go_sem, h]
    refine c_cut h2 ha ?_
    simp only [go_sem]
    have hp : 0 < 2 ^ w := Nat.pow_pos (by omega)
    refine bE ⟨fun e => ⟨h, ?_⟩, fun e => ?_⟩
    · have e := Int.natCast_inj.1 e
      rw [Int.toNat_natCast, ← e]; exact Nat.mod_lt _ hp
    · have := e.2
      rw [Int.toNat_natCast] at this
      rw [Nat.mod_eq_of_lt this]
  · simp only [go_sem, h]
    exact bF fun e => h e.1
theorem c_bothI {n : Int} {a b : Nat} (ha : a < 18446744073709551616) (hb : b < 18446744073709551616) {H : Heap} {K : AV → Heap → Prop} (hK : K (.bool (decide (gw n a ∧ gw n b))) H) : ACall Tryz.prog 190 [I64 n, U64 a, U64 b] H K := by
  refine pureC rfl rfl ?_ hK
  refine call190 (by simp) ?_
  simp only [Tryz.results190, Tryz.ntmps190, Tryz.f190, Option.getD_some, pl190]
  simp only [go_sem]
  refine c_gwI ha ?_
  by_cases h : gw n a
  · simp only [go_sem, h]
    refine c_gwI hb ?_
    simp only [go_sem]
    exact bE (by simp [h])
  · simp only [go_sem, h]
    exact bF (by simp [h])
theorem c_bothS {n : Int} {a b : Nat} (ha : a < 18446744073709551616) (hb : b < 18446744073709551616) {H : Heap} {K : AV → Heap → Prop} (hK : K (.bool (decide (gw n a ∧ gw n b))) H) : ACall Tryz.prog 192 [I64 n, U64 a, U64 b] H K := by
  refine pureC rfl rfl ?_ hK
  refine call192 (by simp) ?_
  simp only [Tryz.results192, Tryz.ntmps192, Tryz.f192, Option.getD_some, pl192]
  simp only [go_sem]
  refine c_gwS ha ?_
  by_cases h : gw n a
  · simp only [go_sem, h]
    refine c_gwS hb ?_
    simp only [go_sem]
    exact bE (by simp [h])
  · simp only [go_sem, h]
    exact bF (by simp [h])
theorem c_div64 {a b : Nat} (ha : a < 18446744073709551616) (hb : 0 < b) {H : Heap} {K : AV → Heap → Prop} (hK : K (.tup [U64 (a / b), U64 (a % b)]) H) : ACall Tryz.prog 191 [U64 0, U64 a, U64 b] H K := by
  refine pureC rfl rfl ?_ hK
  refine call191 (by simp) ?_
  simp only [Tryz.results191, Tryz.ntmps191, Tryz.f191, Option.getD_some, pl191]
  have h1 : ¬ (b : Int) = 0 := by omega
  have h2 : ¬ (b : Int) ≤ 0 := by omega
  have e1 := tdiv_u (b := b) ha
  have e2 := tmod_u (a := a) (b := b)
  simp only [go_sem, h1, h2, e1, e2, Int.cast_ofNat_Int]
theorem cut_all {w : Nat} (h2 : w ≤ 64) : 18446744073709551615 % 2 ^ w = 2 ^ w - 1 := by
  have h6 := pow_le64 h2
  have hp : 0 < 2 ^ w := Nat.pow_pos (by omega)
  obtain ⟨c, hc⟩ := pow_dvd64 h2
  have h7 : 18446744073709551615 = (2 ^ w - 1) + 2 ^ w * (c - 1) := by
    have : 2 ^ w * c = 2 ^ w * (c - 1) + 2 ^ w := by
      have hc0 : 0 < c := by
        rcases Nat.eq_zero_or_pos c with rfl | h
        · omega
        · exact h
      obtain ⟨d, rfl⟩ : ∃ d, c = d + 1 := ⟨c - 1, by omega⟩
      rw [Nat.mul_succ]; simp
    omega
  rw [h7, Nat.add_mul_mod_self_left, Nat.mod_eq_of_lt (by omega)]
def qOf (w a b : Nat) : Nat := if b = 0 then 2 ^ w - 1 else a / b
def rOf (a b : Nat) : Nat := if b = 0 then a else a % b
theorem lt64 {w a : Nat} (h2 : w ≤ 64) (ha : a < 2 ^ w) : a < 18446744073709551616 := Nat.lt_of_lt_of_le ha (pow_le64 h2)
theorem gw_of {w a : Nat} (h1 : 1 ≤ w) (h2 : w ≤ 64) (ha : a < 2 ^ w) : gw (w : Int) a := ⟨by unfold wideOk; omega, by rw [Int.toNat_natCast]; exact ha⟩
theorem c_divI {w a b : Nat} (h1 : 1 ≤ w) (h2 : w ≤ 64) (ha : a < 2 ^ w) (hb : b < 2 ^ w) {H : Heap} {K : AV → Heap → Prop} (hK : K (.tup [U64 (qOf w a b), U64 (rOf a b), .bool true]) H) : ACall Tryz.prog 171 [I64 w, U64 a, U64 b] H K := by
  refine pureC rfl rfl ?_ hK
  refine call171 (by simp) ?_
  simp only [Tryz.results171, Tryz.ntmps171, Tryz.f171, Option.getD_some, pl171]
  simp only [go_sem]
  refine c_bothI (lt64 h2 ha) (lt64 h2 hb) ?_
  have hg : gw (w : Int) a ∧ gw (w : Int) b := ⟨gw_of h1 h2 ha, gw_of h1 h2 hb⟩
  by_cases h0 : (b : Int) = 0
  · have hb0 : b = 0 := by omega
    simp only [go_sem, hg, h0]
    refine c_mask h1 h2 ?_
    simp only [go_sem, qOf, rOf, hb0]
  · have hb0 : ¬ b = 0 := by omega
    simp only [go_sem, hg, h0]
    refine c_div64 (lt64 h2 ha) (by omega) ?_
    simp only [go_sem, qOf, rOf, hb0]
theorem c_divS {w a b : Nat} (h1 : 1 ≤ w) (h2 : w ≤ 64) (ha : a < 2 ^ w) (hb : b < 2 ^ w) {H : Heap} {K : AV → Heap → Prop} (hK : K (.tup [U64 (qOf w a b), U64 (rOf a b), .bool true]) H) : ACall Tryz.prog 175 [I64 w, U64 a, U64 b] H K := by
  refine pureC rfl rfl ?_ hK
  refine call175 (by simp) ?_
  simp only [Tryz.results175, Tryz.ntmps175, Tryz.f175, Option.getD_some, pl175]
  simp only [go_sem]
  refine c_bothS (lt64 h2 ha) (lt64 h2 hb) ?_
  have hg : gw (w : Int) a ∧ gw (w : Int) b := ⟨gw_of h1 h2 ha, gw_of h1 h2 hb⟩
  by_cases h0 : (b : Int) = 0
  · have hb0 : b = 0 := by omega
    simp only [go_sem, hg, h0]
    refine c_cut (a := 18446744073709551615) h2 (by omega) ?_
    rw [cut_all h2]
    simp only [go_sem, qOf, rOf, hb0]
  · have hb0 : ¬ b = 0 := by omega
    have e1 := tdiv_u (b := b) (lt64 h2 ha)
    have e2 := tmod_u (a := a) (b := b)
    simp only [go_sem, hg, h0, e1, e2]
    simp only [go_sem, qOf, rOf, hb0]
end Go.Proofs.YteegphdelekdaaaGreat

set_option linter.unusedVariables false
set_option linter.unusedSimpArgs false
namespace Go.Proofs.YteegphdelekdaaaGreat
open Go.Abs Go.IntWalk
set_option maxRecDepth 100000
attribute [local go_sem] eI eU eNs eN cN eChs eCh cCh eCos eCo cCo eP
def shOf (w a b : Nat) (left : Bool) : Nat := if w ≤ b then 0 else if left then (a * 2 ^ b) % 2 ^ w else a / 2 ^ b
theorem shOf_r {w a b : Nat} (h : b < w) : shOf w a b false = a / 2 ^ b := by unfold shOf; rw [if_neg (by omega)]; rfl
theorem shOf_l {w a b : Nat} (h : b < w) : shOf w a b true = (a * 2 ^ b) % 2 ^ w := by unfold shOf; rw [if_neg (by omega)]; rfl
theorem c_shI {w a b : Nat} {left : Bool} (h1 : 1 ≤ w) (h2 : w ≤ 64) (ha : a < 2 ^ w) (hb : b < 2 ^ w) {H : Heap} {K : AV → Heap → Prop} (hK : K (U64 (shOf w a b left)) H) : ACall Tryz.prog 172 [I64 w, U64 a, U64 b, .bool left] H K := by
  refine pureC rfl rfl ?_ hK
  refine call172 (by simp) ?_
  simp only [Tryz.results172, Tryz.ntmps172, Tryz.f172, Option.getD_some, pl172]
  have hw : IntKind.wrap .u64 (w : Int) = w := u64_in _ (by omega)
  have hb0 : (0 : Int) ≤ b := by omega
  by_cases h : (w : Int) ≤ b
  · simp only [go_sem, hw, h]
    rw [shOf, if_pos (by omega)]
    rfl
  · have e1 := shl_u (a := a) (k := b) (by omega)
    have e2 := shr_n (a := a) (k := b) (by omega)
    have hp := pow_le64 h2
    have hp2 : 0 < 2 ^ w := Nat.pow_pos (by omega)
    have e3 := and_u (a := (a * 2 ^ b) % 18446744073709551616) (b := 2 ^ w - 1) (Nat.mod_lt _ (by omega)) (by omega)
    rw [and_mask, mod_mod64 _ h2] at e3
    cases left
    · simp only [go_sem, hw, h, hb0, e2]
      rw [shOf_r (by omega)]
    · simp only [go_sem, hw, h, hb0, e1]
      refine c_mask h1 h2 ?_
      simp only [go_sem, e3]
      rw [shOf_l (by omega)]
theorem c_shS {w a b : Nat} {left : Bool} (h1 : 1 ≤ w) (h2 : w ≤ 64) (ha : a < 2 ^ w) (hb : b < 2 ^ w) {H : Heap} {K : AV → Heap → Prop} (hK : K (U64 (shOf w a b left)) H) : ACall Tryz.prog 176 [I64 w, U64 a, U64 b, .bool left] H K := by
  refine pureC rfl rfl ?_ hK
  refine call176 (by simp) ?_
  simp only [Tryz.results176, Tryz.ntmps176, Tryz.f176, Option.getD_some, pl176]
  have hw : IntKind.wrap .u64 (w : Int) = w := u64_in _ (by omega)
  have hp := pow_le64 h2
  have hp2 : 0 < 2 ^ w := Nat.pow_pos (by omega)
  by_cases h : (w : Int) ≤ b
  · simp only [go_sem, hw, h]
    rw [shOf, if_pos (by omega)]
    rfl
  · simp only [go_sem, hw, h]
    refine ALoop.intro (pl := pl176) (fun k env H => ∃ c : Nat, env 0 = I64 w ∧ env 1 = U64 c ∧ env 2 = U64 k ∧ env 3 = .bool left ∧ c < 2 ^ w ∧ k ≤ b ∧ shOf w c k left = shOf w a b left) b (by kernel_rfl) ?_ ?_
    · simp only [go_sem]
      exact ⟨a, rfl, ha, rfl⟩
    · rintro k env H ⟨c, e0, e1, e2, e3, hc, hkb, hs⟩
      by_cases hz : 0 < (k : Int)
      · obtain ⟨j, rfl⟩ : ∃ j, k = j + 1 := ⟨k - 1, by omega⟩
        have f1 := shl_u (a := c) (k := 1) (by omega)
        have f2 := shr_n (a := c) (k := 1) (by omega)
        have f3 : IntKind.u64.wrap (((j + 1 : Nat) : Int) - 1) = (j : Int) := (u64_in _ (by omega)).trans (by omega)
        simp only [Int.toNat_one, Int.cast_ofNat_Int, Nat.pow_one] at f1 f2
        cases left
        · simp only [go_sem, pl176, e0, e1, e2, e3, hz, f2, f3]
          refine ⟨j, by omega, c / 2, rfl, rfl, Nat.lt_of_le_of_lt (Nat.div_le_self _ _) hc, by omega, ?_⟩
          rw [← hs, shOf_r (by omega), shOf_r (by omega), Nat.div_div_eq_div_mul, Nat.pow_succ, Nat.mul_comm 2]
        · simp only [go_sem, pl176, e0, e1, e2, e3, hz, f1, f3]
          refine c_cut (a := (c * 2) % 18446744073709551616) h2 (Nat.mod_lt _ (by omega)) ?_
          simp only [go_sem, pl176, e0, e1, e2, e3, hz, f1, f3]
          refine ⟨j, by omega, _, rfl, rfl, Nat.mod_lt _ hp2, by omega, ?_⟩
          rw [← hs, shOf_l (by omega), shOf_l (by omega), mod_mod64 _ h2, Nat.mod_mul_mod, Nat.mul_assoc, Nat.pow_succ, Nat.mul_comm 2]
      · simp only [go_sem, e0, e1, e2, e3, hz]
        rw [← hs]
        have : k = 0 := by omega
        subst this
        cases left
        · rw [shOf_r (by omega)]; simp
        · rw [shOf_l (by omega)]; simp [Nat.mod_eq_of_lt hc]
theorem c_sgI {w a : Nat} (h1 : 1 ≤ w) (h2 : w ≤ 64) (ha : a < 2 ^ w) {H : Heap} {K : AV → Heap → Prop} (hK : K (I64 (sgn w a)) H) : ACall Tryz.prog 174 [I64 w, U64 a] H K := by
  refine pureC rfl rfl ?_ hK
  refine call174 (by simp) ?_
  simp only [Tryz.results174, Tryz.ntmps174, Tryz.f174, Option.getD_some, pl174]
  have hw : IntKind.wrap .i64 (64 - (w : Int)) = ((64 - w : Nat) : Int) := (i64_in _ (by omega)).trans (by omega)
  have h0 : (0 : Int) ≤ ((64 - w : Nat) : Int) := by omega
  have e1 := shl_u (a := a) (k := 64 - w) (by omega)
  have e2 := sgn_shift h1 h2 ha
  simp only [go_sem, hw, h0, e1, e2]
theorem c_sgS {w a : Nat} (h1 : 1 ≤ w) (h2 : w ≤ 64) (ha : a < 2 ^ w) {H : Heap} {K : AV → Heap → Prop} (hK : K (I64 (sgn w a)) H) : ACall Tryz.prog 178 [I64 w, U64 a] H K := by
  refine pureC rfl rfl ?_ hK
  refine call178 (by simp) ?_
  simp only [Tryz.results178, Tryz.ntmps178, Tryz.f178, Option.getD_some, pl178]
  have hw : IntKind.wrap .i64 ((w : Int) - 1) = ((w - 1 : Nat) : Int) := (i64_in _ (by omega)).trans (by omega)
  have hw2 : IntKind.wrap .u64 ((w - 1 : Nat) : Int) = ((w - 1 : Nat) : Int) := u64_in _ (by omega)
  have h0 : (0 : Int) ≤ ((w - 1 : Nat) : Int) := by omega
  have e1 := shr_n (a := a) (k := w - 1) (by omega)
  have h3 := lt64 h2 ha
  have h4 : a / 2 ^ (w - 1) < 18446744073709551616 := Nat.lt_of_le_of_lt (Nat.div_le_self _ _) h3
  have e2 := and_u (a := a / 2 ^ (w - 1)) (b := 1) h4 (by omega)
  rw [Nat.and_one_is_mod] at e2
  have e3 := sgn_or h1 h2 ha
  by_cases hb : (a / 2 ^ (w - 1)) % 2 = 1
  · have hb' : (((a / 2 ^ (w - 1)) % 2 : Nat) : Int) = 1 := by rw [hb]; rfl
    rw [if_pos hb] at e3
    simp only [go_sem, hw, hw2, h0, e1]
    simp only [Int.cast_ofNat_Int] at e2
    simp only [go_sem, e2, hb']
    refine c_cut (a := 18446744073709551615) h2 (by omega) ?_
    rw [cut_all h2]
    have hp := pow_le64 h2
    have hp2 : 0 < 2 ^ w := Nat.pow_pos (by omega)
    have e5 := not_u (a := 2 ^ w - 1) (by omega)
    have e6 := or_u (a := a) (b := 18446744073709551615 - (2 ^ w - 1)) h3 (by omega)
    simp only [go_sem, e5, e6, e3]
  · have hb' : ¬ (((a / 2 ^ (w - 1)) % 2 : Nat) : Int) = 1 := by omega
    rw [if_neg hb] at e3
    simp only [go_sem, hw, hw2, h0, e1]
    simp only [Int.cast_ofNat_Int] at e2
    simp only [go_sem, e2, hb', e3]
theorem c_truth {b : Bool} {H : Heap} {K : AV → Heap → Prop} (hK : K (U64 (if b then 1 else 0)) H) : ACall Tryz.prog 173 [.bool b] H K := by
  refine pureC rfl rfl ?_ hK
  refine call173 (by simp) ?_
  simp only [Tryz.results173, Tryz.ntmps173, Tryz.f173, Option.getD_some, pl173]
  cases b <;> simp only [go_sem] <;> rfl
theorem c_bool {b : Bool} {H : Heap} {K : AV → Heap → Prop} (hK : K (U64 (if b then 1 else 0)) H) : ACall Tryz.prog 177 [.bool b] H K := by
  refine pureC rfl rfl ?_ hK
  refine call177 (by simp) ?_
  simp only [Tryz.results177, Tryz.ntmps177, Tryz.f177, Option.getD_some, pl177]
  cases b <;> simp only [go_sem] <;> rfl
end Go.Proofs.YteegphdelekdaaaGreat

set_option linter.unusedVariables false
set_option linter.unusedSimpArgs false
namespace Go.Proofs.YteegphdelekdaaaGreat
open Go.Abs Go.IntWalk
set_option maxRecDepth 100000
attribute [local go_sem] eI eU eNs eN cN eChs eCh cCh eCos eCo cCo eP
def doOp (w : Nat) (op : Int) (a b : Nat) : Nat :=
  if op = 3 then (a + b) % 2 ^ w else if op = 4 then (a + (18446744073709551616 - b)) % 2 ^ w else if op = 5 then (a * b) % 2 ^ w else if op = 6 then qOf w a b else if op = 7 then rOf a b
  else if op = 8 ∨ op = 17 then a &&& b else if op = 9 ∨ op = 18 then a ||| b else if op = 10 then a ^^^ b else if op = 11 then shOf w a b true else if op = 12 then shOf w a b false
  else if op = 14 then (if a = b then 1 else 0) else if op = 15 then (if a < b then 1 else 0) else if op = 16 then (if sgn w a < sgn w b then 1 else 0) else 0
theorem one_lt {w : Nat} (h1 : 1 ≤ w) (p : Prop) [Decidable p] : (if p then 1 else 0) < 2 ^ w := by
  have : 2 ^ 1 ≤ 2 ^ w := Nat.pow_le_pow_right (by omega) h1
  split <;> omega
theorem qOf_lt {w a b : Nat} (ha : a < 2 ^ w) : qOf w a b < 2 ^ w := by
  unfold qOf; split
  · omega
  · exact Nat.lt_of_le_of_lt (Nat.div_le_self _ _) ha
theorem rOf_lt {w a b : Nat} (ha : a < 2 ^ w) : rOf a b < 2 ^ w := by
  unfold rOf; split
  · exact ha
  · exact Nat.lt_of_le_of_lt (Nat.mod_le _ _) ha
theorem shOf_lt {w a b : Nat} {left : Bool} (ha : a < 2 ^ w) : shOf w a b left < 2 ^ w := by
  unfold shOf; split
  · exact Nat.pow_pos (by omega)
  · split
    · exact Nat.mod_lt _ (Nat.pow_pos (by omega))
    · exact Nat.lt_of_le_of_lt (Nat.div_le_self _ _) ha
theorem ite_lt {p : Prop} [Decidable p] {x y n : Nat} (hx : x < n) (hy : y < n) : (if p then x else y) < n := by split <;> assumption
theorem doOp_lt {w : Nat} {op : Int} {a b : Nat} (h1 : 1 ≤ w) (ha : a < 2 ^ w) (hb : b < 2 ^ w) : doOp w op a b < 2 ^ w := by
  have hp : 0 < 2 ^ w := Nat.pow_pos (by omega)
  exact ite_lt (Nat.mod_lt _ hp) (ite_lt (Nat.mod_lt _ hp) (ite_lt (Nat.mod_lt _ hp) (ite_lt (qOf_lt ha) (ite_lt (rOf_lt ha) (ite_lt (Nat.lt_of_le_of_lt Nat.and_le_left ha) (ite_lt (or_lt ha hb) (ite_lt (xor_lt ha hb)
    (ite_lt (shOf_lt ha) (ite_lt (shOf_lt ha) (ite_lt (one_lt h1 _) (ite_lt (one_lt h1 _) (ite_lt (one_lt h1 _) hp))))))))))))
theorem bifN {p : Prop} [Decidable p] : (if (decide p) = true then (1 : Nat) else 0) = if p then 1 else 0 := by
  by_cases h : p <;> simp [h]
theorem c_apply {w a b : Nat} {op : Int} (h1 : 1 ≤ w) (h2 : w ≤ 64) (ha : a < 2 ^ w) (hb : b < 2 ^ w) {H : Heap} {K : AV → Heap → Prop} (hK : K (U64 (doOp w op a b)) H) : ACall Tryz.prog 146 [I64 w, I64 op, U64 a, U64 b] H K := by
  refine pureC rfl rfl ?_ hK
  refine call146 (by simp) ?_
  simp only [Tryz.results146, Tryz.ntmps146, Tryz.f146, Option.getD_some, pl146]
  have g2 := pow_le64 h2
  have gp : 0 < 2 ^ w := Nat.pow_pos (by omega)
  have a64 := lt64 h2 ha
  have b64 := lt64 h2 hb
  have fin : ∀ X : Nat, X < 18446744073709551616 → abits .and .u64 (X : Int) ((2 ^ w - 1 : Nat) : Int) = ((X % 2 ^ w : Nat) : Int) := fun X hX => by rw [and_u hX (by omega), and_mask]
  by_cases o3 : op = 3
  · subst o3
    have f := add_u a b
    simp only [go_sem, f]
    have e := fin ((a + b) % 18446744073709551616) (Nat.mod_lt _ (by omega))
    refine c_mask h1 h2 ?_
    simp only [go_sem, e]
    rw [mod_mod64 _ h2]
    rfl
  by_cases o4 : op = 4
  · subst o4
    have f := sub_u (a := a) (b := b) (by omega)
    simp only [go_sem, f]
    have e := fin ((a + (18446744073709551616 - b)) % 18446744073709551616) (Nat.mod_lt _ (by omega))
    refine c_mask h1 h2 ?_
    simp only [go_sem, e]
    rw [mod_mod64 _ h2]
    rfl
  by_cases o5 : op = 5
  · subst o5
    have f := mul_u a b
    simp only [go_sem, f]
    have e := fin ((a * b) % 18446744073709551616) (Nat.mod_lt _ (by omega))
    refine c_mask h1 h2 ?_
    simp only [go_sem, e]
    rw [mod_mod64 _ h2]
    rfl
  by_cases o6 : op = 6
  · subst o6
    simp only [go_sem]
    refine c_divI h1 h2 ha hb ?_
    simp only [go_sem]
    have hX : (qOf w a b : Nat) < 2 ^ w := qOf_lt ha
    have e := fin (qOf w a b) (lt64 h2 hX)
    refine c_mask h1 h2 ?_
    simp only [go_sem, e]
    rw [Nat.mod_eq_of_lt hX]
    rfl
  by_cases o7 : op = 7
  · subst o7
    simp only [go_sem]
    refine c_divI h1 h2 ha hb ?_
    simp only [go_sem]
    have hX : (rOf a b : Nat) < 2 ^ w := rOf_lt (w := w) ha
    have e := fin (rOf a b) (lt64 h2 hX)
    refine c_mask h1 h2 ?_
    simp only [go_sem, e]
    rw [Nat.mod_eq_of_lt hX]
    rfl
  by_cases o8 : op = 8
  · subst o8
    have f := and_u a64 b64
    simp only [go_sem, f]
    have hX : (a &&& b : Nat) < 2 ^ w := Nat.lt_of_le_of_lt Nat.and_le_left ha
    have e := fin (a &&& b) (lt64 h2 hX)
    refine c_mask h1 h2 ?_
    simp only [go_sem, e]
    rw [Nat.mod_eq_of_lt hX]
    rfl
  by_cases o17 : op = 17
  · subst o17
    have f := and_u a64 b64
    simp only [go_sem, f]
    have hX : (a &&& b : Nat) < 2 ^ w := Nat.lt_of_le_of_lt Nat.and_le_left ha
    have e := fin (a &&& b) (lt64 h2 hX)
    refine c_mask h1 h2 ?_
    simp only [go_sem, e]
    rw [Nat.mod_eq_of_lt hX]
    rfl
  by_cases o9 : op = 9
  · subst o9
    have f := or_u a64 b64
    simp only [go_sem, f]
    have hX : (a ||| b : Nat) < 2 ^ w := or_lt ha hb
    have e := fin (a ||| b) (lt64 h2 hX)
    refine c_mask h1 h2 ?_
    simp only [go_sem, e]
    rw [Nat.mod_eq_of_lt hX]
    rfl
  by_cases o18 : op = 18
  · subst o18
    have f := or_u a64 b64
    simp only [go_sem, f]
    have hX : (a ||| b : Nat) < 2 ^ w := or_lt ha hb
    have e := fin (a ||| b) (lt64 h2 hX)
    refine c_mask h1 h2 ?_
    simp only [go_sem, e]
    rw [Nat.mod_eq_of_lt hX]
    rfl
  by_cases o10 : op = 10
  · subst o10
    have f := xor_u a64 b64
    simp only [go_sem, f]
    have hX : (a ^^^ b : Nat) < 2 ^ w := xor_lt ha hb
    have e := fin (a ^^^ b) (lt64 h2 hX)
    refine c_mask h1 h2 ?_
    simp only [go_sem, e]
    rw [Nat.mod_eq_of_lt hX]
    rfl
  by_cases o11 : op = 11
  · subst o11
    simp only [go_sem]
    refine c_shI (left := true) h1 h2 ha hb ?_
    simp only [go_sem]
    have hX : (shOf w a b true : Nat) < 2 ^ w := shOf_lt ha
    have e := fin (shOf w a b true) (lt64 h2 hX)
    refine c_mask h1 h2 ?_
    simp only [go_sem, e]
    rw [Nat.mod_eq_of_lt hX]
    rfl
  by_cases o12 : op = 12
  · subst o12
    simp only [go_sem]
    refine c_shI (left := false) h1 h2 ha hb ?_
    simp only [go_sem]
    have hX : (shOf w a b false : Nat) < 2 ^ w := shOf_lt ha
    have e := fin (shOf w a b false) (lt64 h2 hX)
    refine c_mask h1 h2 ?_
    simp only [go_sem, e]
    rw [Nat.mod_eq_of_lt hX]
    rfl
  by_cases o14 : op = 14
  · subst o14
    simp only [go_sem]
    refine c_truth (b := decide ((a : Int) = b)) ?_
    have hq : decide ((a : Int) = b) = decide (a = b) := decide_eq_decide.2 (by omega)
    rw [hq, bifN]
    simp only [go_sem]
    have hX : (if a = b then 1 else 0 : Nat) < 2 ^ w := one_lt h1 _
    have e := fin (if a = b then 1 else 0) (lt64 h2 hX)
    refine c_mask h1 h2 ?_
    simp only [go_sem, e]
    rw [Nat.mod_eq_of_lt hX]
    rfl
  by_cases o15 : op = 15
  · subst o15
    simp only [go_sem]
    refine c_truth (b := decide ((a : Int) < b)) ?_
    have hq : decide ((a : Int) < b) = decide (a < b) := decide_eq_decide.2 (by omega)
    rw [hq, bifN]
    simp only [go_sem]
    have hX : (if a < b then 1 else 0 : Nat) < 2 ^ w := one_lt h1 _
    have e := fin (if a < b then 1 else 0) (lt64 h2 hX)
    refine c_mask h1 h2 ?_
    simp only [go_sem, e]
    rw [Nat.mod_eq_of_lt hX]
    rfl
  by_cases o16 : op = 16
  · subst o16
    simp only [go_sem]
    refine c_sgI h1 h2 ha ?_
    simp only [go_sem]
    refine c_sgI h1 h2 hb ?_
    simp only [go_sem]
    refine c_truth (b := decide (sgn w a < sgn w b)) ?_
    rw [bifN]
    simp only [go_sem]
    have hX : (if sgn w a < sgn w b then 1 else 0 : Nat) < 2 ^ w := one_lt h1 _
    have e := fin (if sgn w a < sgn w b then 1 else 0) (lt64 h2 hX)
    refine c_mask h1 h2 ?_
    simp only [go_sem, e]
    rw [Nat.mod_eq_of_lt hX]
    rfl
  have e := fin 0 (by omega)
  simp only [go_sem, o3, o4, o5, o6, o7, o8, o17, o9, o18, o10, o11, o12, o14, o15, o16]
  refine c_mask h1 h2 ?_
  simp only [Int.cast_ofNat_Int] at e
  simp only [go_sem, e, Nat.zero_mod, doOp, o3, o4, o5, o6, o7, o8, o17, o9, o18, o10, o11, o12, o14, o15, o16, or_self, if_false]
theorem c_do {w a b : Nat} {op : Int} (h1 : 1 ≤ w) (h2 : w ≤ 64) (ha : a < 2 ^ w) (hb : b < 2 ^ w) {H : Heap} {K : AV → Heap → Prop} (hK : K (U64 (doOp w op a b)) H) : ACall Tryz.prog 151 [I64 w, I64 op, U64 a, U64 b] H K := by
  refine pureC rfl rfl ?_ hK
  refine call151 (by simp) ?_
  simp only [Tryz.results151, Tryz.ntmps151, Tryz.f151, Option.getD_some, pl151]
  have a64 := lt64 h2 ha
  have b64 := lt64 h2 hb
  simp only [go_sem]
  refine c_divS h1 h2 ha hb ?_
  by_cases o3 : op = 3
  · subst o3
    have f := add_u a b
    simp only [go_sem, f]
    refine c_cut (a := (a + b) % 18446744073709551616) h2 (Nat.mod_lt _ (by omega)) ?_
    rw [mod_mod64 _ h2]
    simp only [go_sem]
    rfl
  by_cases o4 : op = 4
  · subst o4
    have f := sub_u (a := a) (b := b) (by omega)
    simp only [go_sem, f]
    refine c_cut (a := (a + (18446744073709551616 - b)) % 18446744073709551616) h2 (Nat.mod_lt _ (by omega)) ?_
    rw [mod_mod64 _ h2]
    simp only [go_sem]
    rfl
  by_cases o5 : op = 5
  · subst o5
    have f := mul_u a b
    simp only [go_sem, f]
    refine c_cut (a := (a * b) % 18446744073709551616) h2 (Nat.mod_lt _ (by omega)) ?_
    rw [mod_mod64 _ h2]
    simp only [go_sem]
    rfl
  by_cases o6 : op = 6
  · subst o6
    simp only [go_sem]
    rfl
  by_cases o7 : op = 7
  · subst o7
    simp only [go_sem]
    rfl
  by_cases o8 : op = 8
  · subst o8
    have f := and_u a64 b64
    simp only [go_sem, f]
    rfl
  by_cases o17 : op = 17
  · subst o17
    have f := and_u a64 b64
    simp only [go_sem, f]
    rfl
  by_cases o9 : op = 9
  · subst o9
    have f := or_u a64 b64
    simp only [go_sem, f]
    rfl
  by_cases o18 : op = 18
  · subst o18
    have f := or_u a64 b64
    simp only [go_sem, f]
    rfl
  by_cases o10 : op = 10
  · subst o10
    have f := xor_u a64 b64
    simp only [go_sem, f]
    rfl
  by_cases o11 : op = 11
  · subst o11
    simp only [go_sem]
    refine c_shS (left := true) h1 h2 ha hb ?_
    simp only [go_sem]
    rfl
  by_cases o12 : op = 12
  · subst o12
    simp only [go_sem]
    refine c_shS (left := false) h1 h2 ha hb ?_
    simp only [go_sem]
    rfl
  by_cases o14 : op = 14
  · subst o14
    simp only [go_sem]
    refine c_bool (b := decide ((a : Int) = b)) ?_
    have hq : decide ((a : Int) = b) = decide (a = b) := decide_eq_decide.2 (by omega)
    rw [hq, bifN]
    simp only [go_sem]
    rfl
  by_cases o15 : op = 15
  · subst o15
    simp only [go_sem]
    refine c_bool (b := decide ((a : Int) < b)) ?_
    have hq : decide ((a : Int) < b) = decide (a < b) := decide_eq_decide.2 (by omega)
    rw [hq, bifN]
    simp only [go_sem]
    rfl
  by_cases o16 : op = 16
  · subst o16
    simp only [go_sem]
    refine c_sgS h1 h2 ha ?_
    simp only [go_sem]
    refine c_sgS h1 h2 hb ?_
    simp only [go_sem]
    refine c_bool (b := decide (sgn w a < sgn w b)) ?_
    rw [bifN]
    simp only [go_sem]
    rfl
  simp only [go_sem, o3, o4, o5, o6, o7, o8, o17, o9, o18, o10, o11, o12, o14, o15, o16]
  simp only [doOp, o3, o4, o5, o6, o7, o8, o17, o9, o18, o10, o11, o12, o14, o15, o16, or_self, if_false]
  rfl
end Go.Proofs.YteegphdelekdaaaGreat
