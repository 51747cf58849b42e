/- Texts of ours, joined: YteegphdelekdaaaGreatH29 YteegphdelekdaaaGreatH30 YteegphdelekdaaaGreatH31. -/
import Derived.Test.YteegphdelekdaaaGreatE5
set_option linter.unusedVariables false
set_option linter.unusedSimpArgs false
namespace Go.Proofs.YteegphdelekdaaaGreat
open Go.Abs Go.IntWalk
set_option maxRecDepth 100000
attribute [local go_sem] eI eU eNs eN cN eChs eCh cCh eCos eCo cCo eP take_map
/-! Words that are ours; Enabled. -/
theorem k_toUint64S {t : List Nat} {H : Heap} (ht : t.length ≤ 1048576) : ACall Tryz.prog 15 [eU t] H fun r H' => ∃ v cs, r = .ref 7 v 0 t.length ∧ H' 7 = .cells v 73 1 cs ∧ cs = t.map U64 := by
  refine call15 (by simp) ?_
  simp only [Tryz.results15, Tryz.ntmps15, Tryz.f15, Option.getD_some, pl15]
  simp only [go_sem]
  refine ⟨by omega, by omega, by omega, by omega, ?_⟩
  refine ALoop.intro (pl := pl15) (fun k env H => ∃ (i v : Nat) (C : List AV), env 0 = eU t ∧ env 3 = .ref 7 v 0 t.length ∧ env 4 = I64 i ∧ H 7 = .cells v 73 1 C ∧ i + k = t.length ∧ C.length = t.length ∧ C.take i = (t.take i).map U64) t.length (by kernel_rfl) ?_ ?_
  · simp only [go_sem]
    exact ⟨0, _, _, rfl, rfl, rfl, by omega, by rw [reps_len]; simp, rfl⟩
  · rintro k env H ⟨i, v, C, e0, e3, e4, b7, hk, hC, hT⟩
    by_cases hz : (i : Int) < t.length
    · obtain ⟨x, hx⟩ := get_some (l := t) (i := i) (by omega)
      have h0 : (0 : Int) ≤ i := by omega
      have hw : IntKind.wrap .i64 ((i : Int) + 1) = i + 1 := i64_in _ (by omega)
      simp only [go_sem, pl15, e0, e3, e4, b7, hz, hx, h0, hw]
      refine ⟨by omega, k - 1, by omega, i + 1, _, _, rfl, rfl, rfl, by omega, ?_, ?_⟩
      · rw [List.length_set]; exact hC
      · rw [set_take (by omega), hT, take_one hx, List.map_append]; rfl
    · simp only [go_sem, e0, e3, e4, b7, hz]
      rw [List.take_of_length_le (by omega), List.take_of_length_le (by omega)] at hT
      exact ⟨v, _, rfl, rfl, by rw [hT]⟩
theorem o_toUint64S {t : List Nat} {H : Heap} {K : AV → Heap → Prop} (d : Nat) (hd : 1000000 ≤ d) (ht : t.length ≤ 1048576) (hg : ∃ v0, H d = .gone v0) (hK : ∀ ver, K (.ref d ver 0 t.length) (upd H d (.cells ver 73 1 (t.map U64)))) : ACall Tryz.prog 15 [eU t] H K := by
  obtain ⟨v0, hg⟩ := hg
  refine ACall.own1 d hg rfl (cll_map fun _ => rfl) ?_ hK
  refine ACall.named 1000000 (by omega) (s := 7) (by omega) (Q := fun cs H' => cs = t.map U64) (k_toUint64S ht) ?_
  rintro v ver cs H' rfl
  exact ⟨ver, rfl, upd_same ..⟩
def uV (n : Int) : AV := .int .u64 n
theorem o_markUint64S {d v n : Nat} {C : List AV} {k : Int} {H : Heap} {K : AV → Heap → Prop} (hd : 1000000 ≤ d) (hH : H d = .cells v 73 1 C) (hC : C.length = n) (hcl : closedL C = true) (hn : n ≤ 1000000000) (hk0 : 0 ≤ k) (hk : k ≤ 8000000000000000000)
    (hK : K (I64 (k + n)) (upd H d (.cells v 73 1 ((cnt k n).map uV)))) : ACall Tryz.prog 24 [.ref d v 0 n, I64 k] H K := by
  have hin : inI d 1 d = true := inI_iff.2 (by omega)
  refine ACall.iv (d := d) (n := 1) hd ?_ ?_ (R := fun r H' => r = I64 (k + n) ∧ H' d = .cells v 73 1 ((cnt k n).map uV)) ?_ ?_
  · intro i v T sz cs hi hc
    have := inI_iff.1 hi
    rw [show i = d by omega, hH] at hc
    cases hc; exact withinL_cl hcl
  · simp only [withinL, within, hin, Bool.and_self]
  · generalize hHs : sub d 1 H = Hs
    have hs : Hs d = .cells v 73 1 C := by rw [← hHs, sub_in (by omega) (by omega), hH]
    clear hHs
    refine call24 (by simp) ?_
    simp only [Tryz.results24, Tryz.ntmps24, Tryz.f24, Option.getD_some, pl24]
    simp only [go_sem]
    refine ALoop.intro (pl := pl24) (fun q env H => ∃ (i : Nat) (C : List AV), env 0 = .ref d v 0 n ∧ env 1 = I64 (k + (i : Nat)) ∧ env 5 = I64 i ∧ H d = .cells v 73 1 C ∧ i + q = n ∧ C.length = n ∧ C.take i = ((cnt k n).take i).map uV) n (by kernel_rfl) ?_ ?_
    · simp only [go_sem]
      exact ⟨0, C, by simp, rfl, hs, by omega, hC, rfl⟩
    · rintro q env H ⟨i, C, e0, e1, e5, bd, hq, hC, hT⟩
      by_cases hz : (i : Int) < n
      · have h0 : (0 : Int) ≤ i := by omega
        have hw : IntKind.wrap .i64 ((i : Int) + 1) = i + 1 := i64_in _ (by omega)
        have hw1 : IntKind.wrap .i64 (k + (i : Int) + 1) = k + ((i + 1 : Nat) : Int) := by rw [i64_in _ (by omega)]; omega
        have hw2 : IntKind.wrap .u64 (k + (i : Int)) = k + (i : Nat) := u64_in _ (by omega)
        simp only [go_sem, pl24, e0, e1, e5, bd, hz, h0, hw, hw1, hw2]
        refine ⟨by omega, q - 1, by omega, i + 1, _, rfl, rfl, rfl, by omega, by rw [List.length_set]; exact hC, ?_⟩
        rw [set_take (by omega), hT, cnt_take (by omega), List.map_append]; rfl
      · simp only [go_sem, e0, e1, e5, bd, hz]
        rw [List.take_of_length_le (by omega), List.take_of_length_le (by rw [cnt_len]; omega)] at hT
        have : i = n := by omega
        subst this
        exact ⟨rfl, by rw [hT]⟩
  · rintro r H' ⟨rfl, h⟩
    refine ⟨_, .keep _ rfl, fun i v T sz cs hi hc => ?_, ?_⟩
    · have := inI_iff.1 hi
      rw [show i = d by omega, h] at hc
      cases hc; exact withinL_cl (cll_map fun _ => rfl)
    · rw [joi_one h]; exact hK
/-- The commands that are enabled. -/
def enab (w : Nat) (cmds : List PCommand) (s : List Nat) (n : Nat) : List Int := ((List.range n).filter fun k => ((cmds[k]?).map fun c => decide (evalT w c.1 s = 1)).getD false).map fun (k : Nat) => (k : Int)
theorem enab_succ {w n : Nat} {cmds : List PCommand} {s : List Nat} {c : PCommand} (hc : cmds[n]? = some c) : enab w cmds s (n + 1) = if evalT w c.1 s = 1 then enab w cmds s n ++ [(n : Int)] else enab w cmds s n := by
  unfold enab
  rw [List.range_succ, List.filter_append, List.map_append]
  by_cases h : evalT w c.1 s = 1
  · rw [if_pos h, List.filter_cons_of_pos (by simp [h, hc])]; rfl
  · rw [if_neg h, List.filter_cons_of_neg (by simp [h, hc])]; simp
theorem enab_len {w n : Nat} {cmds : List PCommand} {s : List Nat} : (enab w cmds s n).length ≤ n := by
  unfold enab
  rw [List.length_map]
  exact Nat.le_trans (List.length_filter_le _ _) (by simp)
theorem k_enabS {p : PProg} {s : List Nat} {w v : Nat} (hg : goodP p) (e1 : p.1 = w) (e2 : p.2.1 = v) (hs : s.length = v) (hsw : ∀ x ∈ s, x < 2 ^ w) {H : Heap} : ACall Tryz.prog 92 [eP p, eU s] H fun r H' => ∃ ver, r = .ref 900 ver 0 (enab w p.2.2.2 s p.2.2.2.length).length ∧ H' 900 = .cells ver 3 1 ((enab w p.2.2.2 s p.2.2.2.length).map I64) := by
  refine call92 (by simp) ?_
  simp only [Tryz.results92, Tryz.ntmps92, Tryz.f92, Option.getD_some, pl92]
  have hcl := hg.2.1
  simp only [go_sem]
  refine ALoop.thaw 900 3 1 (t := 5) (by simp only [go_sem]) ?_
  refine ALoop.intro (pl := pl92) (fun k env H => ∃ (i v2 sv : Nat), env 1 = eU s ∧ env 2 = .ptr 2 v2 0 ∧ env 5 = .ref 900 sv 0 (enab w p.2.2.2 s i).length ∧ env 9 = eCos p.2.2.2 ∧ env 10 = I64 p.2.2.2.length ∧ env 11 = I64 i ∧ H 2 = .cells v2 36 1 [I64 p.1, I64 p.2.1, eNs p.2.2.1, eCos p.2.2.2] ∧ H 900 = .cells sv 3 1 ((enab w p.2.2.2 s i).map I64) ∧ i + k = p.2.2.2.length) p.2.2.2.length (by kernel_rfl) ?_ ?_
  · simp only [go_sem]
    exact ⟨0, _, _, rfl, rfl, rfl, rfl, rfl, by omega⟩
  · rintro k env H ⟨i, v2, sv, t1, t2, t5, t9, t10, t11, b2, b9, hk⟩
    have hwi : IntKind.wrap .i64 ((i : Int) + 1) = i + 1 := i64_in _ (by omega)
    have hle := enab_len (w := w) (cmds := p.2.2.2) (s := s) (n := i)
    by_cases hz : (i : Int) < p.2.2.2.length
    · have h0 : (0 : Int) ≤ i := by omega
      obtain ⟨x, hx⟩ := get_some (l := p.2.2.2) (i := i) (by omega)
      have hok := hg.2.2 x (List.mem_of_getElem? hx)
      simp only [go_sem, pl92, t1, t2, t5, t9, t10, t11, b2, b9, hz, h0, hx]
      refine c_holdsS (p := p) (w := w) (vars := v) (t := x.1) (s := s) e1 (by rw [← e1, ← e2, hok.1]; omega) hs hsw ?_
      have hsucc := enab_succ (w := w) (s := s) hx
      by_cases hh : evalT w x.1 s = 1
      · rw [if_pos hh] at hsucc
        simp only [go_sem, pl92, t1, t2, t5, t9, t10, t11, b2, b9, hh, hwi]
        refine ⟨by omega, k - 1, by omega, i + 1, v2, sv + 1, rfl, ?_, rfl, rfl, ?_, by omega⟩
        · rw [hsucc, List.length_append]; rfl
        · rw [hsucc, List.map_append]; rfl
      · rw [if_neg hh] at hsucc
        simp only [go_sem, pl92, t1, t2, t5, t9, t10, t11, b2, b9, hh, hwi]
        exact ⟨k - 1, by omega, i + 1, v2, sv, rfl, by rw [hsucc], rfl, rfl, by rw [hsucc], by omega⟩
    · simp only [go_sem, pl92, t1, t2, t5, t9, t10, t11, b2, b9, hz]
      have : i = p.2.2.2.length := by omega
      subst this
      exact ⟨sv, rfl, rfl⟩
def enabledOf (p : PProg) (s : List Nat) : List Int := if stateOk p s then enab p.1.toNat p.2.2.2 s p.2.2.2.length else []
theorem enabled_ok {p : PProg} {s : List Nat} {w : Nat} (h : stateOk p s) (e : p.1 = w) : enabledOf p s = enab w p.2.2.2 s p.2.2.2.length := by
  unfold enabledOf
  rw [if_pos h, e, Int.toNat_natCast]
theorem enabled_len {p : PProg} {s : List Nat} : (enabledOf p s).length ≤ 6 := by
  unfold enabledOf
  split
  · rename_i h
    exact Nat.le_trans enab_len h.1.2.1.2
  · simp
end Go.Proofs.YteegphdelekdaaaGreat

set_option linter.unusedVariables false
set_option linter.unusedSimpArgs false
namespace Go.Proofs.YteegphdelekdaaaGreat
open Go.Abs Go.IntWalk
set_option maxRecDepth 100000
attribute [local go_sem] eI eU eNs eN cN eChs eCh cCh eCos eCo cCo eP take_map
theorem enabled_no {p : PProg} {s : List Nat} (h : ¬ stateOk p s) : enabledOf p s = [] := by unfold enabledOf; rw [if_neg h]
theorem c_enabS {p : PProg} {s : List Nat} {w v : Nat} (hg : goodP p) (e1 : p.1 = w) (e2 : p.2.1 = v) (hs : s.length = v) (hsw : ∀ x ∈ s, x < 2 ^ w) {H : Heap} {K : AV → Heap → Prop} (hK : K (eI (enab w p.2.2.2 s p.2.2.2.length)) H) : ACall Tryz.prog 92 [eP p, eU s] H K := by
  refine ACall.pure rfl (k_enabS hg e1 e2 hs hsw) ?_
  rintro r H' ⟨ver, rfl, h⟩
  exact ⟨_, resI rfl rfl h, rfl, hK⟩
theorem c_enabledS {p : PProg} {s : List Nat} (hw : wfP p) (hsm : smProgram p) (hs : wfU s) (hl : s.length ≤ 1000000000) {H : Heap} {K : AV → Heap → Prop} (hK : K (.tup [eI (enabledOf p s), .bool (decide (stateOk p s))]) H) : ACall Tryz.prog 106 [eP p, eU s] H K := by
  refine ACall.pure (R := fun r _ => (stateOk p s ∧ r = .tup [eI (enabledOf p s), .bool true]) ∨ (¬ stateOk p s ∧ r = .tup [.nil, .bool false])) rfl ?_ ?_
  · refine call106 (by simp) ?_
    simp only [Tryz.results106, Tryz.ntmps106, Tryz.f106, Option.getD_some, pl106]
    simp only [go_sem]
    refine c_goodPS (p := p) hw hsm ?_
    by_cases hg : goodP p
    · simp only [go_sem, hg]
      refine c_l7State (p := p) hs hl ?_
      by_cases h2 : okS p.1 p.2.1 s
      · have h : stateOk p s := ⟨hg, h2⟩
        obtain ⟨w, v, e1, e2, _, _, _, _, h5, h6⟩ := state_conds h
        simp only [go_sem, h2]
        refine c_enabS (p := p) hg e1 e2 h5 h6 ?_
        simp only [go_sem]
        exact .inl ⟨h, by rw [enabled_ok h e1]⟩
      · have h : ¬ stateOk p s := fun e => h2 e.2
        simp only [go_sem, h2]
        first | exact .inr ⟨h, rfl⟩ | exact .inr h
    · have h : ¬ stateOk p s := fun e => hg e.1
      simp only [go_sem, hg]
      first | exact .inr ⟨h, rfl⟩ | exact .inr h
  · rintro r H' (⟨h, rfl⟩ | ⟨h, rfl⟩)
    · rw [decide_eq_true h] at hK
      exact ⟨_, .cl rfl, rfl, hK⟩
    · rw [decide_eq_false h, enabled_no h] at hK
      exact ⟨_, .tup2 (.frz _ _ (.nil 1)) (.cl rfl), rfl, hK⟩
theorem frU {l : List Nat} {H : Heap} {id ver T : Nat} {β : Nat → Bool} (hb : β id = true) (h : H id = .cells ver T 1 (l.map U64)) : FRes H β anyAV (.ref id ver 0 l.length) (eU l) := FRes.map1 (f := U64) (fun _ => rfl) (fun _ => rfl) rfl hb h
theorem l_eqUint64S {a b : List Nat} {x y : AV} {H : Heap} {K : AV → Heap → Prop} (hx : FRes H (fun _ => true) anyAV x (eU a)) (hy : FRes H (fun _ => true) anyAV y (eU b)) (ha : a.length ≤ 1048576) (hb : b.length ≤ 1048576) (hK : K (.bool (decide (a = b))) H) : ACall Tryz.prog 21 [x, y] H K :=
  ACall.peek (R := fun r _ => r = .bool (decide (a = b))) (c_eqUint64S ha hb rfl) (.cons _ _ _ _ (.frz _ _ hx) (.cons _ _ _ _ (.frz _ _ hy) .nil)) fun r H' h => by subst h; exact ⟨rfl, hK⟩
end Go.Proofs.YteegphdelekdaaaGreat

set_option linter.unusedVariables false
set_option linter.unusedSimpArgs false
namespace Go.Proofs.YteegphdelekdaaaGreat
open Go.Abs Go.IntWalk
set_option maxRecDepth 100000
attribute [local go_sem] eI eU eNs eN cN eChs eCh cCh eCos eCo cCo eP take_map
end Go.Proofs.YteegphdelekdaaaGreat
