/- Texts of ours, joined: YteegphdelekdaaaH60 YteegphdelekdaaaH61 YteegphdelekdaaaH62 YteegphdelekdaaaH63 YteegphdelekdaaaH64. -/
import Derived.Test.YteegphdelekdaaaE8
set_option linter.unusedVariables false
set_option linter.unusedSimpArgs false
namespace Go.Proofs.Yteegphdelekdaaa
open Go.Abs Go.IntWalk
set_option maxRecDepth 100000
attribute [local go_sem] eI eU eNs eN cN eChs eCh cCh eCos eCo cCo eP take_map
/-! The variables of a term. -/
def varsT : List PNode → List Int
  | [] => []
  | x :: l => if x.1 = 2 then IntKind.wrap .i64 (x.2 : Int) :: varsT l else varsT l
theorem varsT_app {x : PNode} : ∀ {l : List PNode}, varsT (l ++ [x]) = if x.1 = 2 then varsT l ++ [IntKind.wrap .i64 (x.2 : Int)] else varsT l
  | [] => by simp only [List.nil_append, varsT]
  | y :: l => by
    simp only [List.cons_append, varsT, varsT_app (l := l)]
    split <;> split <;> rfl
theorem varsT_len : ∀ {l : List PNode}, (varsT l).length ≤ l.length
  | [] => by simp [varsT]
  | y :: l => by
    simp only [varsT, List.length_cons]
    have := varsT_len (l := l)
    split
    · rw [List.length_cons]; omega
    · omega
theorem k_vinI {t : List PNode} (ht : t.length ≤ 1000000) {H : Heap} : ACall Try.prog 33 [eNs t] H fun r H' => ∃ ver, r = .ref 6 ver 0 (canon (varsT t)).length ∧ H' 6 = .cells ver 3 1 ((canon (varsT t)).map I64) := by
  refine call33 (by simp) ?_
  simp only [Try.results33, Try.ntmps33, Try.f33, Option.getD_some, pl33]
  simp only [go_sem]
  refine ALoop.intro (pl := pl33) (fun k env H => ∃ (i sv : Nat), env 3 = .ref 6 sv 0 (varsT (t.take i)).length ∧ env 7 = eNs t ∧ env 8 = I64 t.length ∧ env 9 = I64 i ∧ H 6 = .cells sv 3 1 ((varsT (t.take i)).map I64) ∧ i + k = t.length) t.length (by kernel_rfl) ?_ ?_
  · simp only [go_sem]
    exact ⟨0, _, rfl, rfl, rfl, by omega⟩
  · rintro k env H ⟨i, sv, e3, e7, e8, e9, b6, hk⟩
    have hwi : IntKind.wrap .i64 ((i : Int) + 1) = i + 1 := i64_in _ (by omega)
    have hle := varsT_len (l := t.take i)
    rw [List.length_take] at hle
    by_cases hz : (i : Int) < t.length
    · have h0 : (0 : Int) ≤ i := by omega
      obtain ⟨x, hx⟩ := get_some (l := t) (i := i) (by omega)
      have hsucc := varsT_app (x := x) (l := t.take i)
      rw [← take_one hx] at hsucc
      by_cases hh : x.1 = 2
      · rw [if_pos hh] at hsucc
        simp only [go_sem, pl33, e3, e7, e8, e9, b6, hz, h0, hx, hh, hwi]
        refine ⟨by omega, k - 1, by omega, i + 1, sv + 1, ?_, rfl, ?_, by omega⟩
        · rw [hsucc, List.length_append]; rfl
        · rw [hsucc, List.map_append]; rfl
      · rw [if_neg hh] at hsucc
        simp only [go_sem, pl33, e3, e7, e8, e9, b6, hz, h0, hx, hh, hwi]
        exact ⟨k - 1, by omega, i + 1, sv, by rw [hsucc], rfl, by rw [hsucc], by omega⟩
    · rw [List.take_of_length_le (by omega)] at e3 b6
      have hle := varsT_len (l := t)
      simp only [go_sem, pl33, e3, e7, e8, e9, b6, hz]
      refine o_sort (zs := varsT t) (by simp only [go_sem, b6]) rfl (by omega) ?_
      simp only [go_sem, pl33, e3, e7, e8, e9, b6, hz]
      refine t_compact (zs := (varsT t).mergeSort leI) (by simp only [go_sem]) (List.length_mergeSort _).symm (by omega) ?_
      rw [compact_canon]
      simp only [go_sem, pl33, e3, e7, e8, e9, b6, hz]
      exact ⟨_, rfl, rfl⟩
theorem c_vinI {t : List PNode} (ht : t.length ≤ 1000000) {H : Heap} {K : AV → Heap → Prop} (hK : K (eI (canon (varsT t))) H) : ACall Try.prog 33 [eNs t] H K := by
  refine ACall.pure rfl (k_vinI ht) ?_
  rintro r H' ⟨ver, rfl, h⟩
  exact ⟨_, resI rfl rfl h, rfl, hK⟩
theorem o_vinI {t : List PNode} (e : Nat) (he : 1000000 ≤ e) (ht : t.length ≤ 1000000) {H : Heap} {K : AV → Heap → Prop} (hg : ∃ v0, H e = .gone v0)
    (hK : ∀ ver, K (.ref e ver 0 (canon (varsT t)).length) (upd H e (.cells ver 3 1 ((canon (varsT t)).map I64)))) : ACall Try.prog 33 [eNs t] H K := by
  obtain ⟨v0, hg⟩ := hg
  refine ACall.own1 e hg rfl (cll_map fun _ => rfl) ?_ hK
  refine ACall.own 1000000 (by omega) (k_vinI ht) ?_
  rintro r H' ⟨ver, rfl, h1⟩
  exact .inl ⟨6, ver, 3, 1, _, _, by omega, h1, .ref .., _, rfl, upd_same ..⟩
theorem c_vinS {t : List PNode} (ht : t.length ≤ 1000000) {H : Heap} {K : AV → Heap → Prop} (hK : K (eI (canon (varsT t))) H) : ACall Try.prog 29 [eNs t] H K := by
  refine ACall.pure (R := fun r _ => IsI r (canon (varsT t))) rfl ?_ ?_
  · refine call29 (by simp) ?_
    simp only [Try.results29, Try.ntmps29, Try.f29, Option.getD_some, pl29]
    simp only [go_sem]
    refine ALoop.intro (pl := pl29) (fun k env H => ∃ (i : Nat) (a : AV), env 3 = a ∧ env 6 = eNs t ∧ env 7 = I64 t.length ∧ env 8 = I64 i ∧ IsI a (canon (varsT (t.take i))) ∧ i + k = t.length) t.length (by kernel_rfl) ?_ ?_
    · simp only [go_sem]
      exact ⟨0, _, rfl, rfl, .inl ⟨rfl, rfl⟩, by omega⟩
    · rintro k env H ⟨i, a, e3, e6, e7, e8, ha, hk⟩
      have hwi : IntKind.wrap .i64 ((i : Int) + 1) = i + 1 := i64_in _ (by omega)
      by_cases hz : (i : Int) < t.length
      · have h0 : (0 : Int) ≤ i := by omega
        obtain ⟨x, hx⟩ := get_some (l := t) (i := i) (by omega)
        have hsucc := varsT_app (x := x) (l := t.take i)
        rw [← take_one hx] at hsucc
        by_cases hh : x.1 = 2
        · rw [if_pos hh] at hsucc
          have hcl : (canon (varsT (t.take i))).length ≤ 1000000 := Nat.le_trans canon_len (Nat.le_trans varsT_len (by rw [List.length_take]; omega))
          simp only [go_sem, pl29, e3, e6, e7, e8, hz, h0, hx, hh]
          refine c_put (x := IntKind.wrap .i64 (x.2 : Int)) ha hcl ?_
          simp only [go_sem, pl29, e3, e6, e7, e8, hz, h0, hx, hh, hwi]
          refine ⟨k - 1, by omega, i + 1, _, rfl, rfl, .inr ?_, by omega⟩
          rw [hsucc, canon_app]; rfl
        · rw [if_neg hh] at hsucc
          simp only [go_sem, pl29, e3, e6, e7, e8, hz, h0, hx, hh, hwi]
          exact ⟨k - 1, by omega, i + 1, a, rfl, rfl, by rw [hsucc]; exact ha, by omega⟩
      · simp only [go_sem, pl29, e3, e6, e7, e8, hz]
        rw [List.take_of_length_le (by omega)] at ha
        exact ha
  · rintro r H' (⟨rfl, e⟩ | rfl)
    · rw [e] at hK
      exact ⟨_, .frz _ _ (.nil 1), rfl, hK⟩
    · exact ⟨_, .cl rfl, rfl, hK⟩
end Go.Proofs.Yteegphdelekdaaa

set_option linter.unusedVariables false
set_option linter.unusedSimpArgs false
namespace Go.Proofs.Yteegphdelekdaaa
open Go.Abs Go.IntWalk
set_option maxRecDepth 100000
attribute [local go_sem] eI eU eNs eN cN eChs eCh cCh eCos eCo cCo eP take_map
/-! TouchedBy. -/
def byVars (x : PChange) : List Int := canon (varsT x.2)
def readsRaw (c : PCommand) (l : List PChange) : List Int := canon (varsT c.1) ++ l.flatMap byVars
def readsC (c : PCommand) : List Int := canon (readsRaw c c.2)
def writesC (c : PCommand) : List Int := c.2.map (·.1)
theorem readsRaw_app {c : PCommand} {l : List PChange} {x : PChange} : readsRaw c (l ++ [x]) = readsRaw c l ++ byVars x := by
  unfold readsRaw
  rw [List.flatMap_append, ← List.append_assoc]; simp
def cmdAt (p : PProg) (k : Int) : Prop := goodP p ∧ 0 ≤ k ∧ k < p.2.2.2.length
instance (p : PProg) (k : Int) : Decidable (cmdAt p k) := by unfold cmdAt; infer_instance
def readsOf (p : PProg) (k : Int) : List Int := if cmdAt p k then readsC ((p.2.2.2[k.toNat]?).getD ([], [])) else []
def writesOf (p : PProg) (k : Int) : List Int := if cmdAt p k then writesC ((p.2.2.2[k.toNat]?).getD ([], [])) else []
theorem reads_eq {p : PProg} {n : Nat} {c : PCommand} (h : cmdAt p n) (hc : p.2.2.2[n]? = some c) : readsOf p n = readsC c ∧ writesOf p n = writesC c := by
  unfold readsOf writesOf
  rw [if_pos h, if_pos h, Int.toNat_natCast, hc]
  exact ⟨rfl, rfl⟩
theorem reads_nil {p : PProg} {k : Int} (h : ¬ cmdAt p k) : readsOf p k = [] ∧ writesOf p k = [] := ⟨if_neg h, if_neg h⟩
/-- How long they are. -/
structure CmdB (c : PCommand) : Prop where
  when : c.1.length ≤ 48
  chs : c.2.length ≤ 4
  by_ : ∀ x ∈ c.2, x.2.length ≤ 48
theorem chs_at3 {wide vars : Int} : ∀ {l : List PChange} {prev : Int} {x : PChange}, chsOk wide vars prev l → x ∈ l → kindT wide vars x.2 = 1
  | c :: l, prev, x, h, hx => by
    rw [chsOk] at h
    rcases List.mem_cons.1 hx with rfl | hx
    · exact h.2.2.1
    · exact chs_at3 h.2.2.2 hx
theorem cmd_b {p : PProg} {c : PCommand} (hg : goodP p) (hc : c ∈ p.2.2.2) : CmdB c := by
  have hok := hg.2.2 c hc
  have hk := kind_conds (show kindT p.1 p.2.1 c.1 ≠ 0 by rw [hok.1]; omega)
  refine ⟨hk.2.2.2, ?_, fun x hx => ?_⟩
  · by_cases e : c.2 = []
    · rw [e]; simp
    · have := chs_len hok.2 e
      have := hk.2.1
      omega
  · exact (kind_conds (show kindT p.1 p.2.1 x.2 ≠ 0 by rw [(chs_at3 hok.2 hx)]; omega)).2.2.2
theorem by_len {x : PChange} (h : x.2.length ≤ 48) : (byVars x).length ≤ 48 := Nat.le_trans canon_len (Nat.le_trans varsT_len h)
theorem raw_len {c : PCommand} (hb : CmdB c) : ∀ (l : List PChange), (∀ x ∈ l, x ∈ c.2) → (readsRaw c l).length ≤ 48 + l.length * 48 := by
  intro l hl
  unfold readsRaw
  rw [List.length_append]
  have h1 : (canon (varsT c.1)).length ≤ 48 := Nat.le_trans canon_len (Nat.le_trans varsT_len hb.when)
  have h2 : (l.flatMap byVars).length ≤ l.length * 48 := by
    induction l with
    | nil => simp
    | cons x l ih =>
      rw [List.flatMap_cons, List.length_append, List.length_cons]
      have := by_len (hb.by_ x (hl x (by simp)))
      have := ih fun y hy => hl y (by simp [hy])
      omega
  omega
def OutT (ok : Prop) (a b : List Int) (s : Nat) (g g2 : Blk) (r : AV) (H' : Heap) : Prop :=
  (ok ∧ ∃ v1 v2, r = .tup [.ref 1000000 v1 0 a.length, .ref s v2 0 b.length, .bool true] ∧ H' 1000000 = .cells v1 3 1 (a.map I64) ∧ H' s = .cells v2 3 1 (b.map I64)) ∨ (¬ ok ∧ r = .tup [.nil, .nil, .bool false] ∧ H' 1000000 = g ∧ H' 1000001 = g2)
theorem k_touchI {p : PProg} {k : Int} (hw : wfP p) (hsm : smProgram p) {H : Heap} {v0 v1 : Nat} (hg : H 1000000 = .gone v0) (hg2 : H 1000001 = .gone v1) : ACall Try.prog 11 [eP p, I64 k] H (OutT (cmdAt p k) (readsOf p k) (writesOf p k) 29 (.gone v0) (.gone v1)) := by
  generalize hR : OutT (cmdAt p k) (readsOf p k) (writesOf p k) 29 (.gone v0) (.gone v1) = R
  have bad : ¬ cmdAt p k → ∀ H' : Heap, H' 1000000 = .gone v0 → H' 1000001 = .gone v1 → R (.tup [.nil, .nil, .bool false]) H' := fun h H' h2 h3 => by rw [← hR]; exact .inr ⟨h, rfl, h2, h3⟩
  refine call11 (by simp) ?_
  simp only [Try.results11, Try.ntmps11, Try.f11, Option.getD_some, pl11]
  simp only [go_sem]
  refine c_goodPI (p := p) hw hsm ?_
  by_cases hgood : goodP p
  · simp only [go_sem, hgood]
    refine c_noCmd (p := p) (k := k) hsm.2.1 ?_
    by_cases h2 : 0 ≤ k ∧ k < p.2.2.2.length
    · have hat : cmdAt p k := ⟨hgood, h2⟩
      obtain ⟨n, rfl⟩ : ∃ n : Nat, k = n := ⟨k.toNat, by omega⟩
      obtain ⟨c, hc⟩ := get_some (l := p.2.2.2) (i := n) (by omega)
      have hb := cmd_b hgood (List.mem_of_getElem? hc)
      obtain ⟨er, ew⟩ := reads_eq hat hc
      have hn0 : (0 : Int) ≤ n := by omega
      have hn1 : (n : Int) < p.2.2.2.length := h2.2
      rw [er, ew] at hR
      simp only [go_sem, hn0, hn1, hc]
      refine o_vinI (t := c.1) 1000000 (by omega) (by have := hb.when; omega) ⟨v0, by simp only [go_sem]; exact hg⟩ fun ver => ?_
      simp only [go_sem]
      refine ALoop.intro (pl := pl11) (fun q env H => ∃ (i v8 v9 : Nat), env 8 = .ref 1000000 v8 0 (readsRaw c (c.2.take i)).length ∧ env 9 = .ref 29 v9 0 i ∧ env 31 = eChs c.2 ∧ env 32 = I64 c.2.length ∧ env 33 = I64 i ∧ H 1000000 = .cells v8 3 1 ((readsRaw c (c.2.take i)).map I64) ∧ H 29 = .cells v9 3 1 ((writesC (c.1, c.2.take i)).map I64) ∧ i + q = c.2.length) c.2.length (by kernel_rfl) ?_ ?_
      · simp only [go_sem]
        have e0 : readsRaw c (c.2.take 0) = canon (varsT c.1) := by simp [readsRaw]
        exact ⟨0, _, _, by rw [e0], rfl, rfl, by rw [e0], rfl, by omega⟩
      · rintro q env H ⟨i, v8, v9, e8, e9, e31, e32, e33, b8, b9, hk⟩
        have hch := hb.chs
        have hwi : IntKind.wrap .i64 ((i : Int) + 1) = i + 1 := i64_in _ (by omega)
        have hrl := raw_len hb (c.2.take i) (fun x hx => List.mem_of_mem_take hx)
        rw [List.length_take] at hrl
        have hch := hb.chs
        by_cases hz : (i : Int) < c.2.length
        · have h0 : (0 : Int) ≤ i := by omega
          obtain ⟨x, hx⟩ := get_some (l := c.2) (i := i) (by omega)
          have hxm := List.mem_of_getElem? hx
          have hxl := hb.by_ x hxm
          have hby := by_len hxl
          have hby' : canon (varsT x.2) = byVars x := rfl
          simp only [go_sem, pl11, e8, e9, e31, e32, e33, b8, b9, hz, h0, hx]
          have hwl : (writesC (c.1, c.2.take i)).length = i := by unfold writesC; rw [List.length_map, List.length_take]; omega
          have hw1 : writesC (c.1, c.2.take (i + 1)) = writesC (c.1, c.2.take i) ++ [x.1] := by unfold writesC; rw [take_one hx, List.map_append]; rfl
          with_reducible refine And.intro ?_ ?_
          · refine c_vinI (t := x.2) (by omega) ?_
            simp only [go_sem, pl11, e8, e9, e31, e32, e33, b8, b9, hz, h0, hx, hwi, flI, scI]
            refine ⟨by rw [hby']; omega, by omega, by omega, q - 1, by omega, i + 1, v8 + 1, v9 + 1, ?_, rfl, rfl, ?_, ?_, by omega⟩
            · rw [take_one hx, readsRaw_app, List.length_append]; rfl
            · rw [take_one hx, readsRaw_app, List.map_append]; rfl
            · rw [List.take_of_length_le (by rw [List.length_map]; omega), hw1, List.map_append]; rfl
          · refine c_vinI (t := x.2) (by omega) ?_
            simp only [go_sem, pl11, e8, e9, e31, e32, e33, b8, b9, hz, h0, hx, hwi, flI, scI]
            refine ⟨by rw [hby']; omega, by omega, by omega, q - 1, by omega, i + 1, v8 + 1, v9 + 1, ?_, rfl, rfl, ?_, ?_, by omega⟩
            · rw [take_one hx, readsRaw_app, List.length_append]; rfl
            · rw [take_one hx, readsRaw_app, List.map_append]; rfl
            · rw [List.take_of_length_le (by rw [List.length_map]; omega), hw1, List.map_append]; rfl
        · have hT : c.2.take i = c.2 := List.take_of_length_le (by omega)
          have hic : i = c.2.length := by omega
          rw [hT] at e8 b8 b9
          have hrl := raw_len hb c.2 (fun x hx => hx)
          simp only [go_sem, pl11, e8, e9, e31, e32, e33, b8, b9, hz]
          refine o_sort (zs := readsRaw c c.2) (by simp only [go_sem, b8]) rfl (by omega) ?_
          simp only [go_sem, pl11, e8, e9, e31, e32, e33, b8, b9, hz]
          refine t_compact (zs := (readsRaw c c.2).mergeSort leI) (by simp only [go_sem]) (List.length_mergeSort _).symm (by omega) ?_
          rw [compact_canon]
          simp only [go_sem, pl11, e8, e9, e31, e32, e33, b8, b9, hz]
          rw [← hR]
          refine .inl ⟨hat, v8, v9, ?_, upd_same .., ?_⟩
          · unfold readsC writesC
            rw [List.length_map, hic]
          · rw [upd_ne _ _ (by omega), upd_ne _ _ (by omega), b9]
    · simp only [go_sem, h2]
      exact bad (fun h => h2 h.2) _ (by simp [upd]; exact hg) (by simp [upd]; exact hg2)
  · simp only [go_sem, hgood]
    exact bad (fun h => hgood h.1) _ (by simp [upd]; exact hg) (by simp [upd]; exact hg2)
theorem reads_len {p : PProg} {k : Int} : (readsOf p k).length ≤ 1000 ∧ (writesOf p k).length ≤ 1000 := by
  by_cases h : cmdAt p k
  · obtain ⟨n, rfl⟩ : ∃ n : Nat, k = n := ⟨k.toNat, by have := h.2.1; omega⟩
    obtain ⟨c, hc⟩ := get_some (l := p.2.2.2) (i := n) (by have := h.2.2; omega)
    obtain ⟨er, ew⟩ := reads_eq h hc
    have hb := cmd_b h.1 (List.mem_of_getElem? hc)
    have hrl := raw_len hb c.2 (fun x hx => hx)
    have hch := hb.chs
    rw [er, ew]
    have h1 : (readsC c).length ≤ (readsRaw c c.2).length := canon_len
    have h2 : (writesC c).length = c.2.length := by unfold writesC; rw [List.length_map]
    omega
  · rw [(reads_nil h).1, (reads_nil h).2]; simp
theorem c_touchI {p : PProg} {k : Int} (hw : wfP p) (hsm : smProgram p) {H : Heap} {K : AV → Heap → Prop} (hK : K (.tup [eI (readsOf p k), eI (writesOf p k), .bool (decide (cmdAt p k))]) H) : ACall Try.prog 11 [eP p, I64 k] H K := by
  refine ACall.pure rfl (k_touchI (v0 := 0) (v1 := 0) hw hsm rfl rfl) ?_
  rintro r H' (⟨h, v1, v2, rfl, h1, h2⟩ | ⟨h, rfl, _⟩)
  · rw [decide_eq_true h] at hK
    exact ⟨_, .tup3 (resI rfl rfl h1) (resI rfl rfl h2) (.cl rfl), rfl, hK⟩
  · rw [decide_eq_false h, (reads_nil h).1, (reads_nil h).2] at hK
    exact ⟨_, .tup3 (.frz _ _ (.nil 1)) (.frz _ _ (.nil 1)) (.cl rfl), rfl, hK⟩
theorem c_touchS {p : PProg} {k : Int} (hw : wfP p) (hsm : smProgram p) {H : Heap} {K : AV → Heap → Prop} (hK : K (.tup [eI (readsOf p k), eI (writesOf p k), .bool (decide (cmdAt p k))]) H) : ACall Try.prog 10 [eP p, I64 k] H K := by
  refine ACall.pure (R := fun r H' => (cmdAt p k ∧ ∃ v2, r = .tup [eI (readsOf p k), .ref 900 v2 0 (writesOf p k).length, .bool true] ∧ H' 900 = .cells v2 3 1 ((writesOf p k).map I64)) ∨ (¬ cmdAt p k ∧ r = .tup [.nil, .nil, .bool false])) rfl ?_ ?_
  · generalize hR : (fun (r : AV) (H' : Heap) => (cmdAt p k ∧ ∃ v2, r = AV.tup [eI (readsOf p k), .ref 900 v2 0 (writesOf p k).length, .bool true] ∧ H' 900 = Blk.cells v2 3 1 ((writesOf p k).map I64)) ∨ (¬ cmdAt p k ∧ r = AV.tup [.nil, .nil, .bool false])) = R
    have bad : ¬ cmdAt p k → ∀ H' : Heap, R (.tup [.nil, .nil, .bool false]) H' := fun h H' => by rw [← hR]; exact .inr ⟨h, rfl⟩
    refine call10 (by simp) ?_
    simp only [Try.results10, Try.ntmps10, Try.f10, Option.getD_some, pl10]
    simp only [go_sem]
    refine c_goodPS (p := p) hw hsm ?_
    have hcl := hsm.2.1
    have hwl : IntKind.wrap .i64 ((p.2.2.2.length : Int) - 1) = (p.2.2.2.length : Int) - 1 := i64_in _ (by omega)
    by_cases hgood : goodP p
    · simp only [go_sem, hgood, hwl]
      refine c_in ?_
      by_cases h2 : 0 ≤ k ∧ k ≤ (p.2.2.2.length : Int) - 1
      · have hat : cmdAt p k := ⟨hgood, by omega⟩
        obtain ⟨n, rfl⟩ : ∃ n : Nat, k = n := ⟨k.toNat, by omega⟩
        obtain ⟨c, hc⟩ := get_some (l := p.2.2.2) (i := n) (by omega)
        have hb := cmd_b hgood (List.mem_of_getElem? hc)
        obtain ⟨er, ew⟩ := reads_eq hat hc
        have hn0 : (0 : Int) ≤ n := by omega
        have hn1 : (n : Int) ≤ (p.2.2.2.length : Int) - 1 := h2.2
        rw [er, ew] at hR
        have hch := hb.chs
        simp only [go_sem, hn0, hn1, hc]
        refine c_vinS (t := c.1) (by have := hb.when; omega) ?_
        simp only [go_sem, hn0, hn1, hc]
        refine ALoop.thaw 900 3 1 (t := 8) (by simp only [go_sem]) ?_
        refine ALoop.intro (pl := pl10) (fun q env H => ∃ (i v9 : Nat), env 7 = eI (canon (readsRaw c (c.2.take i))) ∧ env 8 = .ref 900 v9 0 i ∧ env 37 = eChs c.2 ∧ env 38 = I64 c.2.length ∧ env 39 = I64 i ∧ H 900 = .cells v9 3 1 ((writesC (c.1, c.2.take i)).map I64) ∧ i + q = c.2.length) c.2.length (by kernel_rfl) ?_ ?_
        · simp only [go_sem]
          have e0 : canon (readsRaw c (c.2.take 0)) = canon (varsT c.1) := by simp [readsRaw, canon_inc (inc_canon _)]
          exact ⟨0, _, by rw [e0], rfl, rfl, rfl, by omega⟩
        · rintro q env H ⟨i, v9, e7, e8, e37, e38, e39, b9, hk⟩
          have hwi : IntKind.wrap .i64 ((i : Int) + 1) = i + 1 := i64_in _ (by omega)
          have hrl := raw_len hb (c.2.take i) (fun x hx => List.mem_of_mem_take hx)
          rw [List.length_take] at hrl
          by_cases hz : (i : Int) < c.2.length
          · have h0 : (0 : Int) ≤ i := by omega
            obtain ⟨x, hx⟩ := get_some (l := c.2) (i := i) (by omega)
            have hxm := List.mem_of_getElem? hx
            have hxl := hb.by_ x hxm
            have hby := by_len hxl
            have hwl2 : (writesC (c.1, c.2.take i)).length = i := by unfold writesC; rw [List.length_map, List.length_take]; omega
            have hw1 : writesC (c.1, c.2.take (i + 1)) = writesC (c.1, c.2.take i) ++ [x.1] := by unfold writesC; rw [take_one hx, List.map_append]; rfl
            simp only [go_sem, pl10, e7, e8, e37, e38, e39, b9, hz, h0, hx]
            refine ⟨by omega, by omega, ?_⟩
            refine c_vinS (t := x.2) (by omega) ?_
            rw [show canon (varsT x.2) = byVars x from rfl]
            delta eI
            simp only [go_sem, pl10, e7, e8, e37, e38, e39, b9, hz, h0, hx]
            refine ALoop.intro (pl := pl10) (fun q1 env H => ∃ (j : Nat), env 7 = eI (canon (readsRaw c (c.2.take i) ++ (byVars x).take j)) ∧ env 8 = .ref 900 (v9 + 1) 0 (i + 1) ∧ env 37 = eChs c.2 ∧ env 38 = I64 c.2.length ∧ env 39 = I64 i ∧ env 50 = eI (byVars x) ∧ env 51 = I64 (byVars x).length ∧ env 52 = I64 j ∧ H 900 = .cells (v9 + 1) 3 1 ((writesC (c.1, c.2.take (i + 1))).map I64) ∧ j + q1 = (byVars x).length) (byVars x).length (by kernel_rfl) ?_ ?_
            · simp only [go_sem, e7, e8, e37, e38, e39, b9]
              exact ⟨0, by rw [List.take_zero, List.append_nil], rfl, by rw [List.take_of_length_le (by rw [List.length_map]; omega), hw1, List.map_append]; rfl, by omega⟩
            · rintro q1 env H ⟨j, e7, e8, e37, e38, e39, e50, e51, e52, b9, hk1⟩
              by_cases hz1 : (j : Int) < (byVars x).length
              · obtain ⟨y, hy⟩ := get_some (l := byVars x) (i := j) (by omega)
                have h01 : (0 : Int) ≤ j := by omega
                have hwj : IntKind.wrap .i64 ((j : Int) + 1) = j + 1 := i64_in _ (by omega)
                have hcs : (canon (readsRaw c (c.2.take i) ++ (byVars x).take j)).length ≤ 1000000 := Nat.le_trans canon_len (by rw [List.length_append, List.length_take]; omega)
                simp only [go_sem, pl10, e7, e8, e37, e38, e39, e50, e51, e52, b9, hz1, hy, h01]
                refine c_put (x := y) (.inr rfl) hcs ?_
                simp only [go_sem, pl10, e7, e8, e37, e38, e39, e50, e51, e52, b9, hz1, hy, h01, hwj]
                refine ⟨q1 - 1, by omega, j + 1, ?_, rfl, by omega⟩
                rw [take_one hy, ← List.append_assoc, canon_app]
              · simp only [go_sem, pl10, e7, e8, e37, e38, e39, e50, e51, e52, b9, hz1, hwi]
                rw [List.take_of_length_le (l := byVars x) (by omega)]
                exact ⟨q - 1, by omega, i + 1, _, by rw [take_one hx, readsRaw_app], rfl, rfl, rfl, by omega⟩
          · have hT : c.2.take i = c.2 := List.take_of_length_le (by omega)
            rw [hT] at e7 b9
            have hwl2 : (writesC (c.1, c.2)).length = i := by unfold writesC; rw [List.length_map]; show c.2.length = i; omega
            simp only [go_sem, pl10, e7, e8, e37, e38, e39, b9, hz]
            rw [← hR]
            exact .inl ⟨hat, v9, by rw [← hwl2]; rfl, b9⟩
      · simp only [go_sem, h2]
        exact bad (fun h => h2 (by have := h.2; omega)) _
    · simp only [go_sem, hgood]
      exact bad (fun h => hgood h.1) _
  · rintro r H' (⟨h, v2, rfl, h2⟩ | ⟨h, rfl⟩)
    · rw [decide_eq_true h] at hK
      exact ⟨_, .tup3 (.cl rfl) (resI rfl rfl h2) (.cl rfl), rfl, hK⟩
    · rw [decide_eq_false h, (reads_nil h).1, (reads_nil h).2] at hK
      exact ⟨_, .tup3 (.frz _ _ (.nil 1)) (.frz _ _ (.nil 1)) (.cl rfl), rfl, hK⟩
end Go.Proofs.Yteegphdelekdaaa

set_option linter.unusedVariables false
set_option linter.unusedSimpArgs false
namespace Go.Proofs.Yteegphdelekdaaa
open Go.Abs Go.IntWalk
set_option maxRecDepth 100000
attribute [local go_sem] eI eU eNs eN cN eChs eCh cCh eCos eCo cCo eP take_map
/-! slices.IndexFunc, ContainsFunc, Index, Contains at []int: run in the heap as it stands. -/
theorem i_idxF {g : FuncId} {caps : List AV} {l : List Int} {P : Int → Prop} [DecidablePred P] {H : Heap} {K : AV → Heap → Prop} (hl : l.length ≤ 1000000000)
    (hcl : ∀ x ∈ l, ∀ K : AV → Heap → Prop, K (.bool (decide (P x))) H → ACall Try.prog g (I64 x :: caps) H K)
    (h1 : ∀ (i : Nat) x, l[i]? = some x → P x → (∀ y ∈ l.take i, ¬ P y) → K (I64 i) H) (h2 : (∀ x ∈ l, ¬ P x) → K (I64 (-1)) H) : ACall Try.prog 42 [eI l, .fn g caps] H K := by
  refine call42 (by simp) ?_
  simp only [Try.results42, Try.ntmps42, Try.f42, Option.getD_some, pl42]
  simp only [go_sem]
  refine ALoop.intro (pl := pl42) (fun k env H' => ∃ i : Nat, H' = H ∧ env 0 = eI l ∧ env 1 = .fn g caps ∧ env 7 = I64 l.length ∧ env 8 = I64 i ∧ i + k = l.length ∧ ∀ x ∈ l.take i, ¬ P x) l.length (by kernel_rfl) ?_ ?_
  · simp only [go_sem]
    exact ⟨0, by simp⟩
  · rintro k env H' ⟨i, rfl, e0, e1, e7, e8, hk, ht⟩
    by_cases hz : (i : Int) < l.length
    · obtain ⟨x, hx⟩ := get_some (l := l) (i := i) (by omega)
      have hw : IntKind.wrap .i64 ((i : Int) + 1) = i + 1 := i64_in _ (by omega)
      have h0 : (0 : Int) ≤ i := by omega
      simp only [go_sem, e0, e1, e7, e8, hz, hx, h0]
      refine hcl x (List.mem_of_getElem? hx) _ ?_
      by_cases hp : P x
      · simp only [go_sem, hp]
        exact h1 i x hx hp ht
      · simp only [go_sem, e0, e1, e7, e8, hp, hw]
        refine ⟨k - 1, by omega, i + 1, rfl, by omega, ?_⟩
        intro y hy
        rw [take_one hx] at hy
        rcases List.mem_append.1 hy with hy | hy
        · exact ht y hy
        · rw [List.mem_singleton.1 hy]; exact hp
    · simp only [go_sem, e7, e8, hz]
      rw [List.take_of_length_le (by omega)] at ht
      exact h2 ht
theorem i_contF {g : FuncId} {caps : List AV} {l : List Int} {P : Int → Prop} [DecidablePred P] {H : Heap} {K : AV → Heap → Prop} (hl : l.length ≤ 1000000000)
    (hcl : ∀ x ∈ l, ∀ K : AV → Heap → Prop, K (.bool (decide (P x))) H → ACall Try.prog g (I64 x :: caps) H K)
    (h1 : (∃ x, x ∈ l ∧ P x) → K (.bool true) H) (h2 : (∀ x ∈ l, ¬ P x) → K (.bool false) H) : ACall Try.prog 22 [eI l, .fn g caps] H K := by
  refine call22 (by simp) ?_
  simp only [Try.results22, Try.ntmps22, Try.f22, Option.getD_some, pl22]
  simp only [go_sem]
  refine i_idxF (l := l) (P := P) hl hcl (fun i x hx hp _ => ?_) fun hno => ?_
  · have h0 : (0 : Int) ≤ i := by omega
    simp only [go_sem, h0]
    exact h1 ⟨x, List.mem_of_getElem? hx, hp⟩
  · simp only [go_sem]
    exact h2 hno
theorem c_idx {l : List Int} {x : Int} (hl : l.length ≤ 1000000000) {H : Heap} {K : AV → Heap → Prop} (h1 : ∀ i : Nat, x ∈ l → K (I64 i) H) (h2 : ¬ x ∈ l → K (I64 (-1)) H) : ACall Try.prog 43 [eI l, I64 x] H K := by
  refine call43 (by simp) ?_
  simp only [Try.results43, Try.ntmps43, Try.f43, Option.getD_some, pl43]
  simp only [go_sem]
  refine ALoop.intro (pl := pl43) (fun k env H' => ∃ i : Nat, H' = H ∧ env 0 = eI l ∧ env 1 = I64 x ∧ env 7 = I64 l.length ∧ env 8 = I64 i ∧ i + k = l.length ∧ ¬ x ∈ l.take i) l.length (by kernel_rfl) ?_ ?_
  · simp only [go_sem]
    exact ⟨0, by simp⟩
  · rintro k env H' ⟨i, rfl, e0, e1, e7, e8, hk, ht⟩
    by_cases hz : (i : Int) < l.length
    · obtain ⟨y, hy⟩ := get_some (l := l) (i := i) (by omega)
      have hw : IntKind.wrap .i64 ((i : Int) + 1) = i + 1 := i64_in _ (by omega)
      have h0 : (0 : Int) ≤ i := by omega
      by_cases hp : x = y
      · simp only [go_sem, pl43, e0, e1, e7, e8, hz, hy, h0, ← hp]
        exact h1 i (by rw [hp]; exact List.mem_of_getElem? hy)
      · simp only [go_sem, pl43, e0, e1, e7, e8, hz, hy, h0, hp, hw]
        refine ⟨k - 1, by omega, i + 1, rfl, by omega, ?_⟩
        rw [take_one hy, List.mem_append, List.mem_singleton]
        exact fun h => h.elim ht hp
    · simp only [go_sem, pl43, e7, e8, hz]
      rw [List.take_of_length_le (by omega)] at ht
      exact h2 ht
theorem c_cont {l : List Int} {x : Int} (hl : l.length ≤ 1000000000) {H : Heap} {K : AV → Heap → Prop} (hK : K (.bool (decide (x ∈ l))) H) : ACall Try.prog 24 [eI l, I64 x] H K := by
  refine call24 (by simp) ?_
  simp only [Try.results24, Try.ntmps24, Try.f24, Option.getD_some, pl24]
  simp only [go_sem]
  refine c_idx (l := l) (x := x) hl (fun i h => ?_) fun h => ?_
  · have h0 : (0 : Int) ≤ i := by omega
    simp only [go_sem, h0]
    rw [decide_eq_true h] at hK; exact hK
  · simp only [go_sem]
    rw [decide_eq_false h] at hK; exact hK
end Go.Proofs.Yteegphdelekdaaa

set_option linter.unusedVariables false
set_option linter.unusedSimpArgs false
namespace Go.Proofs.Yteegphdelekdaaa
open Go.Abs Go.IntWalk
set_option maxRecDepth 100000
attribute [local go_sem] eI eU eNs eN cN eChs eCh cCh eCos eCo cCo eP take_map
/-! Apart. -/
def meetB (a b : List Int) : Bool := a.any fun x => decide (x ∈ b)
theorem meet_yes {a b : List Int} (h : ∃ x, x ∈ a ∧ x ∈ b) : meetB a b = true := by
  obtain ⟨x, h1, h2⟩ := h
  unfold meetB
  rw [List.any_eq_true]
  exact ⟨x, h1, by simpa using h2⟩
theorem meet_no {a b : List Int} (h : ∀ x ∈ a, ¬ x ∈ b) : meetB a b = false := by
  unfold meetB
  rw [List.any_eq_false]
  intro x hx
  simpa using h x hx
theorem c_meetI {a b : List Int} (ha : a.length ≤ 1000) (hb : b.length ≤ 1000) {H : Heap} {K : AV → Heap → Prop} (hK : K (.bool (meetB a b)) H) : ACall Try.prog 21 [eI a, eI b] H K := by
  refine pureC rfl rfl ?_ hK
  refine call21 (by simp) ?_
  simp only [Try.results21, Try.ntmps21, Try.f21, Option.getD_some, pl21]
  simp only [go_sem]
  refine i_contF (l := a) (P := fun x => x ∈ b) (by omega) (fun x hx K hK => ?_) (fun h => ?_) fun h => ?_
  · refine call23 (by simp) ?_
    simp only [Try.results23, Try.ntmps23, Try.f23, Option.getD_some, pl23]
    simp only [go_sem]
    refine c_cont (l := b) (x := x) (by omega) ?_
    simp only [go_sem]
    exact hK
  · simp only [go_sem]
    rw [meet_yes h]
  · simp only [go_sem]
    rw [meet_no h]
theorem c_meetS {a b : List Int} (ha : a.length ≤ 1000) (hb : b.length ≤ 1000) {H : Heap} {K : AV → Heap → Prop} (hK : K (.bool (meetB a b)) H) : ACall Try.prog 18 [eI a, eI b] H K := by
  refine pureC rfl rfl ?_ hK
  refine call18 (by simp) ?_
  simp only [Try.results18, Try.ntmps18, Try.f18, Option.getD_some, pl18]
  simp only [go_sem]
  refine ALoop.intro (pl := pl18) (fun k env H => ∃ i : Nat, env 1 = eI b ∧ env 7 = eI a ∧ env 8 = I64 a.length ∧ env 9 = I64 i ∧ i + k = a.length ∧ ∀ x ∈ a.take i, ¬ x ∈ b) a.length (by kernel_rfl) ?_ ?_
  · simp only [go_sem]
    exact ⟨0, by simp⟩
  · rintro k env H ⟨i, e1, e7, e8, e9, hk, ht⟩
    by_cases hz : (i : Int) < a.length
    · obtain ⟨y, hy⟩ := get_some (l := a) (i := i) (by omega)
      have h0 : (0 : Int) ≤ i := by omega
      have hw : IntKind.wrap .i64 ((i : Int) + 1) = i + 1 := i64_in _ (by omega)
      simp only [go_sem, pl18, e1, e7, e8, e9, hz, hy, h0]
      refine c_has (l := b) (x := y) (by omega) ?_
      by_cases hp : y ∈ b
      · simp only [go_sem, pl18, e1, e7, e8, e9, hz, hy, h0, hp]
        rw [meet_yes ⟨y, List.mem_of_getElem? hy, hp⟩]
      · simp only [go_sem, pl18, e1, e7, e8, e9, hz, hy, h0, hp, hw]
        refine ⟨k - 1, by omega, i + 1, rfl, by omega, fun z hz => ?_⟩
        rw [take_one hy] at hz
        rcases List.mem_append.1 hz with hz | hz
        · exact ht z hz
        · rw [List.mem_singleton.1 hz]; exact hp
    · simp only [go_sem, pl18, e1, e7, e8, e9, hz]
      rw [List.take_of_length_le (by omega)] at ht
      rw [meet_no ht]
def apartOf (p : PProg) (k m : Int) : Bool × Bool :=
  if cmdAt p k ∧ cmdAt p m then (!meetB (writesOf p k) (readsOf p m) && !meetB (writesOf p k) (writesOf p m) && !meetB (writesOf p m) (readsOf p k), true) else (false, false)
theorem c_apartI {p : PProg} {k m : Int} (hw : wfP p) (hsm : smProgram p) {H : Heap} {K : AV → Heap → Prop} (hK : K (.tup [.bool (apartOf p k m).1, .bool (apartOf p k m).2]) H) : ACall Try.prog 8 [eP p, I64 k, I64 m] H K := by
  refine pureC rfl rfl ?_ hK
  refine call8 (by simp) ?_
  simp only [Try.results8, Try.ntmps8, Try.f8, Option.getD_some, pl8]
  have hlk := reads_len (p := p) (k := k)
  have hlm := reads_len (p := p) (k := m)
  simp only [go_sem]
  refine c_touchI (p := p) (k := k) hw hsm ?_
  simp only [go_sem]
  refine c_touchI (p := p) (k := m) hw hsm ?_
  by_cases h1 : cmdAt p k
  · by_cases h2 : cmdAt p m
    · simp only [go_sem, h1, h2]
      unfold apartOf
      rw [if_pos ⟨h1, h2⟩]
      refine c_meetI (a := writesOf p k) (b := readsOf p m) (by omega) (by omega) ?_
      cases meetB (writesOf p k) (readsOf p m)
      · simp only [go_sem, h1, h2]
        refine c_meetI (a := writesOf p k) (b := writesOf p m) (by omega) (by omega) ?_
        cases meetB (writesOf p k) (writesOf p m)
        · simp only [go_sem, h1, h2]
          refine c_meetI (a := writesOf p m) (b := readsOf p k) (by omega) (by omega) ?_
          cases meetB (writesOf p m) (readsOf p k) <;> simp only [go_sem, h1, h2] <;> rfl
        · simp only [go_sem, h1, h2]
      · simp only [go_sem, h1, h2]
    · simp only [go_sem, h1, h2]
      unfold apartOf
      rw [if_neg fun h => h2 h.2]
  · simp only [go_sem, h1]
    unfold apartOf
    rw [if_neg fun h => h1 h.1]
theorem c_apartS {p : PProg} {k m : Int} (hw : wfP p) (hsm : smProgram p) {H : Heap} {K : AV → Heap → Prop} (hK : K (.tup [.bool (apartOf p k m).1, .bool (apartOf p k m).2]) H) : ACall Try.prog 6 [eP p, I64 k, I64 m] H K := by
  refine pureC rfl rfl ?_ hK
  refine call6 (by simp) ?_
  simp only [Try.results6, Try.ntmps6, Try.f6, Option.getD_some, pl6]
  have hlk := reads_len (p := p) (k := k)
  have hlm := reads_len (p := p) (k := m)
  simp only [go_sem]
  refine c_touchS (p := p) (k := k) hw hsm ?_
  simp only [go_sem]
  refine c_touchS (p := p) (k := m) hw hsm ?_
  by_cases h1 : cmdAt p k
  · by_cases h2 : cmdAt p m
    · simp only [go_sem, h1, h2]
      unfold apartOf
      rw [if_pos ⟨h1, h2⟩]
      refine c_meetS (a := writesOf p k) (b := readsOf p m) (by omega) (by omega) ?_
      cases meetB (writesOf p k) (readsOf p m)
      · simp only [go_sem, h1, h2]
        refine c_meetS (a := writesOf p k) (b := writesOf p m) (by omega) (by omega) ?_
        cases meetB (writesOf p k) (writesOf p m)
        · simp only [go_sem, h1, h2]
          refine c_meetS (a := writesOf p m) (b := readsOf p k) (by omega) (by omega) ?_
          cases meetB (writesOf p m) (readsOf p k) <;> simp only [go_sem, h1, h2] <;> rfl
        · simp only [go_sem, h1, h2]
      · simp only [go_sem, h1, h2]
    · simp only [go_sem, h1, h2]
      unfold apartOf
      rw [if_neg fun h => h2 h.2]
  · simp only [go_sem, h1]
    unfold apartOf
    rw [if_neg fun h => h1 h.1]
/-- The law of Apart: true, whatever it is given. -/
theorem c_lawApart {p : PProg} {k m : Int} (hw : wfP p) (hb : bdProgram p) : ACall Try.prog 3 [eP p, I64 k, I64 m] H0 fun r _ => r = .bool true := by
  refine call3 (by simp) ?_
  simp only [Try.results3, Try.ntmps3, Try.f3, Option.getD_some, pl3]
  simp only [go_sem]
  refine c_szProgram (x := p) (by omega) (by omega) hb fun r hr => ?_
  by_cases h1 : r < 0
  · simp only [go_sem, h1, decide_true]
  · simp only [go_sem, h1, decide_false]
    obtain ⟨hrl, hsm⟩ := hr (by omega)
    refine c_toProgram (x := p) hsm ?_
    simp only [go_sem]
    refine c_apartS (p := p) (k := k) (m := m) hw hsm ?_
    simp only [go_sem]
    refine c_toProgram (x := p) hsm ?_
    simp only [go_sem]
    refine c_apartI (p := p) (k := k) (m := m) hw hsm ?_
    simp only [go_sem]
    refine c_toProgram (x := p) hsm ?_
    simp only [go_sem]
    refine c_eqProgram (x := p) (y := p) hsm hsm ?_
    simp only [go_sem, decide_true]
end Go.Proofs.Yteegphdelekdaaa

set_option linter.unusedVariables false
set_option linter.unusedSimpArgs false
namespace Go.Proofs.Yteegphdelekdaaa
open Go.Abs Go.IntWalk
set_option maxRecDepth 100000
attribute [local go_sem] eI eU eNs eN cN eChs eCh cCh eCos eCo cCo eP take_map
/-- Two lists that the callee made, ours from now on. -/
theorem lendT {g : FuncId} {p : PProg} {xs xs' A : List AV} {ok : Prop} {a b : List Int} {H H1 : Heap} {K : AV → Heap → Prop} {d e1 e2 s v0 v1 : Nat} (hs : s < 1000000) (hA : oP d H1 p = A) (ha : atP d H1 p) (hcg : ∀ i, d ≤ i → H i = H1 i) (he1 : e1 < d) (he2 : e2 < d) (hne : e1 ≠ e2) (hg1 : H e1 = .gone v0) (hg2 : H e2 = .gone v1)
    (hv : Views H (inL 2) (rhoL [e1, e2]) (fun j => !([e1, e2].contains j)) xs xs') (hk : ACall Try.prog g (eP p :: xs') (hp [.gone v0, .gone v1]) (OutT ok a b s (.gone v0) (.gone v1)))
    (h1 : ok → ∀ ver ver2, K (.tup [.ref e1 ver 0 a.length, .ref e2 ver2 0 b.length, .bool true]) (upd (upd H e1 (.cells ver 3 1 (a.map I64))) e2 (.cells ver2 3 1 (b.map I64)))) (h2 : ¬ ok → K (.tup [.nil, .nil, .bool false]) H) : ACall Try.prog g (.agg A :: xs) H K := by
  have ee : oP d H p = oP d H1 p := oP_congr fun i h _ => hcg i h
  rw [← hA, ← ee]
  have ha : atP d H p := atP_congr (fun i h _ => hcg i h) ha
  refine ACall.handL [e1, e2] [.gone v0, .gone v1] (by simp [hne]) ⟨by rw [hg1]; rfl, by rw [hg2]; rfl, trivial⟩ (by simp [Blk.inB]) (.cons _ _ _ _ (.frz _ _ (fr_p ha fun i h3 h4 => by simp; omega)) hv)
    (R := fun r H' => (ok ∧ ∃ v1 v2, r = .tup [.ref 1000000 v1 0 a.length, .ref 1000001 v2 0 b.length, .bool true] ∧ H' 1000000 = .cells v1 3 1 (a.map I64) ∧ H' 1000001 = .cells v2 3 1 (b.map I64)) ∨ (¬ ok ∧ r = .tup [.nil, .nil, .bool false] ∧ H' 1000000 = .gone v0 ∧ H' 1000001 = .gone v1)) ?_ ?_
  · refine ACall.own 1000001 (by omega) hk ?_
    rintro r H' (⟨h, w1, w2, rfl, h3, h4⟩ | ⟨h, rfl, h3, h4⟩)
    · refine .inl ⟨s, w2, 3, 1, _, .tup [.ref 1000000 w1 0 a.length, .ref 1000001 _ 0 b.length, .bool true], hs, h4, .tup _ _ rfl fun i x y hx hy => ?_, .inl ⟨h, w1, _, rfl, ?_, upd_same ..⟩⟩
      · match i with
        | 0 => simp at hx hy; subst hx hy; exact .same _
        | 1 => simp at hx hy; subst hx hy; exact .ref ..
        | 2 => simp at hx hy; subst hx hy; exact .same _
        | i + 3 => simp at hx
      · rw [upd_ne _ _ (by omega), upd_ne _ _ (by omega)]; exact h3
    · exact .inr (.inr (.inr ⟨h, rfl, h3, h4⟩))
  · have c1 : closedL (a.map I64) = true := cll_map fun _ => rfl
    have c2 : closedL (b.map I64) = true := cll_map fun _ => rfl
    rintro r H' (⟨h, w1, w2, rfl, h3, h4⟩ | ⟨h, rfl, h3, h4⟩)
    · refine ⟨[.cells w1 3 1 (a.map I64), .cells w2 3 1 (b.map I64)], ⟨h3, h4, trivial⟩, rfl, ?_, rfl, ?_⟩
      · simp only [List.all_cons, List.all_nil, Bool.and_true, Blk.inB, Bool.and_eq_true]
        exact ⟨within_plainM (fun _ => rfl) _, within_plainM (fun _ => rfl) _⟩
      · have := h1 h w1 w2
        simp only [lays, Blk.ren, renL_closed _ _ c1, renL_closed _ _ c2]
        exact this
    · refine ⟨[.gone v0, .gone v1], ⟨h3, h4, trivial⟩, rfl, by simp [Blk.inB], rfl, ?_⟩
      simp only [lays, Blk.ren]
      have := h2 h
      rw [show upd (upd H e1 (.gone v0)) e2 (.gone v1) = H from by rw [← hg1, upd_self, ← hg2, upd_self]]
      exact this
/-- The law of TouchedBy: true, whatever it is given. -/
theorem c_lawTouchedBy {p : PProg} {k : Int} (hw : wfP p) (hb : bdProgram p) : ACall Try.prog 4 [eP p, I64 k] H0 fun r _ => r = .bool true := by
  refine call4 (by simp) ?_
  simp only [Try.results4, Try.ntmps4, Try.f4, Option.getD_some, pl4]
  simp only [go_sem]
  refine c_szProgram (x := p) (by omega) (by omega) hb fun r hr => ?_
  by_cases h1 : r < 0
  · simp only [go_sem, h1, decide_true]
  · simp only [go_sem, h1, decide_false]
    obtain ⟨hrl, hsm⟩ := hr (by omega)
    refine c_toProgram (x := p) hsm ?_
    simp only [go_sem]
    refine c_touchS (p := p) (k := k) hw hsm ?_
    simp only [go_sem]
    obtain ⟨hla, hlb⟩ := reads_len (p := p) (k := k)
    refine o_toProgram (p := p) 2000000 (by omega) hsm (fun i h2 h3 => ⟨0, ?_⟩) fun H1 hag1 ha => ?_
    · simp only [upd]
      repeat rw [if_neg (by omega)]
      rfl
    · have hlo1 : ∀ i, i < 2000000 → H1 i = _ := fun i hi => hag1 i (.inl hi)
      simp only [go_sem, hlo1, oP, Nat.reduceLT]
      refine lendT (p := p) (d := 2000000) (e1 := 1000000) (e2 := 1000001) (v0 := 0) (v1 := 0) (s := 29) (H1 := H1) (ok := cmdAt p k) (a := readsOf p k) (b := writesOf p k) (by omega) rfl ha (fun i h => by simp only [upd]; repeat rw [if_neg (by omega)]) (by omega) (by omega) (by omega) ?_ ?_ (views_closed _ rfl) (k_touchI (p := p) (k := k) hw hsm rfl rfl) (fun hs ver ver2 => ?_) fun hs => ?_
      · simp only [upd_hi, Nat.reduceLT, Nat.reduceLeDiff, hlo1]
        rfl
      · simp only [upd_hi, Nat.reduceLT, Nat.reduceLeDiff, hlo1]
        rfl
      · simp only [go_sem, hlo1, Nat.reduceLT, hs]
        refine l_eqIntS (a := readsOf p k) (b := readsOf p k) (frI (T := 3) rfl (by simp only [go_sem, hlo1, Nat.reduceLT])) (.cl _ rfl) (by omega) (by omega) ?_
        simp only [go_sem, hlo1, Nat.reduceLT, hs, decide_true]
        refine l_eqIntS (a := writesOf p k) (b := writesOf p k) (frI (T := 3) rfl (by simp only [go_sem, hlo1, Nat.reduceLT])) (.cl _ rfl) (by omega) (by omega) ?_
        simp only [go_sem, hlo1, Nat.reduceLT, hs, decide_true]
        refine c_toProgram (x := p) hsm ?_
        simp only [go_sem, hlo1, Nat.reduceLT]
        refine m_eqProgram (d := 2000000) (p := p) (q := p) (H1 := H1) rfl ha (fun i h => by simp only [upd]; repeat rw [if_neg (by omega)]) hsm hsm ?_
        simp only [go_sem, hlo1, Nat.reduceLT, decide_true]
        refine m_markProgram (d := 2000000) (p := p) (H1 := H1) rfl ha (fun i h => by simp only [upd]; repeat rw [if_neg (by omega)]) (by omega) hsm (by omega) (by omega) fun k1 H4 hag4 hk1 _ => ?_
        have hlo4 : ∀ i, i < 2000000 → H4 i = _ := fun i hi => hag4 i (.inl hi)
        have hk1' : ¬ k1 < 0 := by omega
        simp only [go_sem, hlo4, hlo1, Nat.reduceLT, hk1']
        refine l_eqIntS (a := readsOf p k) (b := readsOf p k) (frI (T := 3) rfl (by simp only [go_sem, hlo4, hlo1, Nat.reduceLT])) (.cl _ rfl) (by omega) (by omega) ?_
        simp only [go_sem, hlo4, hlo1, Nat.reduceLT, hs, decide_true]
        refine l_eqIntS (a := writesOf p k) (b := writesOf p k) (frI (T := 3) rfl (by simp only [go_sem, hlo4, hlo1, Nat.reduceLT])) (.cl _ rfl) (by omega) (by omega) ?_
        simp only [go_sem, hlo4, hlo1, Nat.reduceLT, hs, decide_true]
        refine o_markIntS (d := 1000000) (C := (readsOf p k).map I64) (by omega) (by simp only [go_sem, hlo4, hlo1, Nat.reduceLT]) (by simp) (cll_map fun _ => rfl) (by omega) (by omega) (by omega) ?_
        simp only [go_sem, hlo4, hlo1, Nat.reduceLT]
        refine o_markIntS (d := 1000001) (C := (writesOf p k).map I64) (by omega) (by simp only [go_sem, hlo4, hlo1, Nat.reduceLT]) (by simp) (cll_map fun _ => rfl) (by omega) (by omega) (by omega) ?_
        simp only [go_sem, hlo4, hlo1, Nat.reduceLT]
        have hn0 : ¬ (1 + ((readsOf p k).length : Int)) < 0 := by omega
        have hn1 : ¬ (1 + ((readsOf p k).length : Int) + ((writesOf p k).length : Int)) < 0 := by omega
        refine l_heldIntS (n := (readsOf p k).length) (k := 1) (frC (T := 3) rfl (by simp only [go_sem])) (by omega) (by omega) (by omega) ?_
        simp only [go_sem, hlo4, hlo1, Nat.reduceLT, hn0]
        refine l_heldIntS (n := (writesOf p k).length) (k := 1 + ((readsOf p k).length : Int)) (frC (T := 3) rfl (by simp only [go_sem])) (by omega) (by omega) (by omega) ?_
        simp only [go_sem, hlo4, hlo1, Nat.reduceLT, hn0, hn1]
        refine c_toProgram (x := p) hsm ?_
        simp only [go_sem, hlo4, hlo1, Nat.reduceLT]
        refine c_touchI (p := p) (k := k) hw hsm ?_
        simp only [go_sem, hlo4, hlo1, Nat.reduceLT, hs, decide_true]
        refine c_eqIntS (a := readsOf p k) (b := readsOf p k) (by omega) (by omega) ?_
        simp only [go_sem, hlo4, hlo1, Nat.reduceLT, hs, decide_true]
        refine c_eqIntS (a := writesOf p k) (b := writesOf p k) (by omega) (by omega) ?_
        simp only [go_sem, hlo4, hlo1, Nat.reduceLT, hs, decide_true]
        refine l_heldIntS (n := (readsOf p k).length) (k := 1) (frC (T := 3) rfl (by simp only [go_sem])) (by omega) (by omega) (by omega) ?_
        simp only [go_sem, hlo4, hlo1, Nat.reduceLT, hn0]
        refine l_heldIntS (n := (writesOf p k).length) (k := 1 + ((readsOf p k).length : Int)) (frC (T := 3) rfl (by simp only [go_sem])) (by omega) (by omega) (by omega) ?_
        simp only [go_sem, hlo4, hlo1, Nat.reduceLT, hn0, hn1]
      · have z0 : 1 + ((0 : Nat) : Int) = 1 := rfl
        obtain ⟨hn1, hn2⟩ := reads_nil hs
        simp only [go_sem, hlo1, Nat.reduceLT, hs, hn1, hn2]
        refine l_eqIntS (a := []) (b := []) (.nil 1) (.cl _ rfl) (by simp) (by simp) ?_
        simp only [go_sem, hlo1, Nat.reduceLT, hs, hn1, hn2, decide_true]
        refine l_eqIntS (a := []) (b := []) (.nil 1) (.cl _ rfl) (by simp) (by simp) ?_
        simp only [go_sem, hlo1, Nat.reduceLT, hs, hn1, hn2, decide_true]
        refine c_toProgram (x := p) hsm ?_
        simp only [go_sem, hlo1, Nat.reduceLT]
        refine m_eqProgram (d := 2000000) (p := p) (q := p) (H1 := H1) rfl ha (fun i h => by simp only [upd]; repeat rw [if_neg (by omega)]) hsm hsm ?_
        simp only [go_sem, hlo1, Nat.reduceLT, decide_true]
        refine m_markProgram (d := 2000000) (p := p) (H1 := H1) rfl ha (fun i h => by simp only [upd]; repeat rw [if_neg (by omega)]) (by omega) hsm (by omega) (by omega) fun k1 H4 hag4 hk1 _ => ?_
        have hlo4 : ∀ i, i < 2000000 → H4 i = _ := fun i hi => hag4 i (.inl hi)
        have hk1' : ¬ k1 < 0 := by omega
        simp only [go_sem, hlo4, hlo1, Nat.reduceLT, hk1']
        refine l_eqIntS (a := []) (b := readsOf p k) (.nil 1) (.cl _ rfl) (by simp) (by omega) ?_
        simp only [go_sem, hlo4, hlo1, Nat.reduceLT, hs, hn1, hn2, decide_true]
        refine l_eqIntS (a := []) (b := []) (.nil 1) (.cl _ rfl) (by simp) (by simp) ?_
        simp only [go_sem, hlo4, hlo1, Nat.reduceLT, hs, hn1, hn2, decide_true]
        refine n_markIntS ?_
        simp only [go_sem, hlo4, hlo1, Nat.reduceLT]
        refine n_markIntS ?_
        simp only [go_sem, hlo4, hlo1, Nat.reduceLT]
        refine l_heldIntS (n := 0) (k := 1) (.nil 1) (by omega) (by omega) (by omega) ?_
        simp only [go_sem, hlo4, hlo1, Nat.reduceLT, z0]
        refine l_heldIntS (n := 0) (k := 1) (.nil 1) (by omega) (by omega) (by omega) ?_
        simp only [go_sem, hlo4, hlo1, Nat.reduceLT, z0]
        refine c_toProgram (x := p) hsm ?_
        simp only [go_sem, hlo4, hlo1, Nat.reduceLT]
        refine c_touchI (p := p) (k := k) hw hsm ?_
        simp only [go_sem, hlo4, hlo1, Nat.reduceLT, hs, hn1, hn2, decide_true]
        refine c_eqIntS (a := []) (b := []) (by simp) (by simp) ?_
        simp only [go_sem, hlo4, hlo1, Nat.reduceLT, hs, hn1, hn2, decide_true]
        refine c_eqIntS (a := []) (b := []) (by simp) (by simp) ?_
        simp only [go_sem, hlo4, hlo1, Nat.reduceLT, hs, hn1, hn2, decide_true]
        refine l_heldIntS (n := 0) (k := 1) (.nil 1) (by omega) (by omega) (by omega) ?_
        simp only [go_sem, hlo4, hlo1, Nat.reduceLT, z0]
        refine l_heldIntS (n := 0) (k := 1) (.nil 1) (by omega) (by omega) (by omega) ?_
        simp only [go_sem, hlo4, hlo1, Nat.reduceLT, z0]
end Go.Proofs.Yteegphdelekdaaa
