/- Texts of ours, joined: YtclpodljplkbbaaH29 YtclpodljplkbbaaH30 YtclpodljplkbbaaH31. -/
import Derived.Test.YtclpodljplkbbaaE5
set_option linter.unusedVariables false
set_option linter.unusedSimpArgs false
namespace Go.Proofs.Ytclpodljplkbbaa
open Go.Abs Go.IntWalk
set_option maxRecDepth 100000
attribute [local go_sem] eI eU eNs eN cN eChs eCh cCh eCos eCo cCo eP take_map
/-! Words that are ours; Enabled. -/
theorem k_toUint64S {t : List Nat} {H : Heap} (ht : t.length ≤ 1048576) : ACall Try.prog 17 [eU t] H fun r H' => ∃ v cs, r = .ref 7 v 0 t.length ∧ H' 7 = .cells v 62 1 cs ∧ cs = t.map U64 := by
  refine call17 (by simp) ?_
  simp only [Try.results17, Try.ntmps17, Try.f17, Option.getD_some, pl17]
  simp only [go_sem]
  refine ⟨by omega, by omega, by omega, by omega, ?_⟩
  refine ALoop.intro (pl := pl17) (fun k env H => ∃ (i v : Nat) (C : List AV), env 0 = eU t ∧ env 3 = .ref 7 v 0 t.length ∧ env 4 = I64 i ∧ H 7 = .cells v 62 1 C ∧ i + k = t.length ∧ C.length = t.length ∧ C.take i = (t.take i).map U64) t.length (by kernel_rfl) ?_ ?_
  · simp only [go_sem]
    exact ⟨0, _, _, rfl, rfl, rfl, by omega, by rw [reps_len]; simp, rfl⟩
  · rintro k env H ⟨i, v, C, e0, e3, e4, b7, hk, hC, hT⟩
    by_cases hz : (i : Int) < t.length
    · obtain ⟨x, hx⟩ := get_some (l := t) (i := i) (by omega)
      have h0 : (0 : Int) ≤ i := by omega
      have hw : IntKind.wrap .i64 ((i : Int) + 1) = i + 1 := i64_in _ (by omega)
      simp only [go_sem, pl17, e0, e3, e4, b7, hz, hx, h0, hw]
      refine ⟨by omega, k - 1, by omega, i + 1, _, _, rfl, rfl, rfl, by omega, ?_, ?_⟩
      · rw [List.length_set]; exact hC
      · rw [set_take (by omega), hT, take_one hx, List.map_append]; rfl
    · simp only [go_sem, e0, e3, e4, b7, hz]
      rw [List.take_of_length_le (by omega), List.take_of_length_le (by omega)] at hT
      exact ⟨v, _, rfl, rfl, by rw [hT]⟩
theorem o_toUint64S {t : List Nat} {H : Heap} {K : AV → Heap → Prop} (d : Nat) (hd : 1000000 ≤ d) (ht : t.length ≤ 1048576) (hg : ∃ v0, H d = .gone v0) (hK : ∀ ver, K (.ref d ver 0 t.length) (upd H d (.cells ver 62 1 (t.map U64)))) : ACall Try.prog 17 [eU t] H K := by
  obtain ⟨v0, hg⟩ := hg
  refine ACall.own1 d hg rfl (cll_map fun _ => rfl) ?_ hK
  refine ACall.named 1000000 (by omega) (s := 7) (by omega) (Q := fun cs H' => cs = t.map U64) (k_toUint64S ht) ?_
  rintro v ver cs H' rfl
  exact ⟨ver, rfl, upd_same ..⟩
def uV (n : Int) : AV := .int .u64 n
theorem o_markUint64S {d v n : Nat} {C : List AV} {k : Int} {H : Heap} {K : AV → Heap → Prop} (hd : 1000000 ≤ d) (hH : H d = .cells v 62 1 C) (hC : C.length = n) (hcl : closedL C = true) (hn : n ≤ 1000000000) (hk0 : 0 ≤ k) (hk : k ≤ 8000000000000000000)
    (hK : K (I64 (k + n)) (upd H d (.cells v 62 1 ((cnt k n).map uV)))) : ACall Try.prog 28 [.ref d v 0 n, I64 k] H K := by
  have hin : inI d 1 d = true := inI_iff.2 (by omega)
  refine ACall.iv (d := d) (n := 1) hd ?_ ?_ (R := fun r H' => r = I64 (k + n) ∧ H' d = .cells v 62 1 ((cnt k n).map uV)) ?_ ?_
  · intro i v T sz cs hi hc
    have := inI_iff.1 hi
    rw [show i = d by omega, hH] at hc
    cases hc; exact withinL_cl hcl
  · simp only [withinL, within, hin, Bool.and_self]
  · generalize hHs : sub d 1 H = Hs
    have hs : Hs d = .cells v 62 1 C := by rw [← hHs, sub_in (by omega) (by omega), hH]
    clear hHs
    refine call28 (by simp) ?_
    simp only [Try.results28, Try.ntmps28, Try.f28, Option.getD_some, pl28]
    simp only [go_sem]
    refine ALoop.intro (pl := pl28) (fun q env H => ∃ (i : Nat) (C : List AV), env 0 = .ref d v 0 n ∧ env 1 = I64 (k + (i : Nat)) ∧ env 5 = I64 i ∧ H d = .cells v 62 1 C ∧ i + q = n ∧ C.length = n ∧ C.take i = ((cnt k n).take i).map uV) n (by kernel_rfl) ?_ ?_
    · simp only [go_sem]
      exact ⟨0, C, by simp, rfl, hs, by omega, hC, rfl⟩
    · rintro q env H ⟨i, C, e0, e1, e5, bd, hq, hC, hT⟩
      by_cases hz : (i : Int) < n
      · have h0 : (0 : Int) ≤ i := by omega
        have hw : IntKind.wrap .i64 ((i : Int) + 1) = i + 1 := i64_in _ (by omega)
        have hw1 : IntKind.wrap .i64 (k + (i : Int) + 1) = k + ((i + 1 : Nat) : Int) := by rw [i64_in _ (by omega)]; omega
        have hw2 : IntKind.wrap .u64 (k + (i : Int)) = k + (i : Nat) := u64_in _ (by omega)
        simp only [go_sem, pl28, e0, e1, e5, bd, hz, h0, hw, hw1, hw2]
        refine ⟨by omega, q - 1, by omega, i + 1, _, rfl, rfl, rfl, by omega, by rw [List.length_set]; exact hC, ?_⟩
        rw [set_take (by omega), hT, cnt_take (by omega), List.map_append]; rfl
      · simp only [go_sem, e0, e1, e5, bd, hz]
        rw [List.take_of_length_le (by omega), List.take_of_length_le (by rw [cnt_len]; omega)] at hT
        have : i = n := by omega
        subst this
        exact ⟨rfl, by rw [hT]⟩
  · rintro r H' ⟨rfl, h⟩
    refine ⟨_, .keep _ rfl, fun i v T sz cs hi hc => ?_, ?_⟩
    · have := inI_iff.1 hi
      rw [show i = d by omega, h] at hc
      cases hc; exact withinL_cl (cll_map fun _ => rfl)
    · rw [joi_one h]; exact hK
/-- The commands that are enabled. -/
def enab (w : Nat) (cmds : List PCommand) (s : List Nat) (n : Nat) : List Int := ((List.range n).filter fun k => ((cmds[k]?).map fun c => decide (evalT w c.1 s = 1)).getD false).map fun (k : Nat) => (k : Int)
theorem enab_succ {w n : Nat} {cmds : List PCommand} {s : List Nat} {c : PCommand} (hc : cmds[n]? = some c) : enab w cmds s (n + 1) = if evalT w c.1 s = 1 then enab w cmds s n ++ [(n : Int)] else enab w cmds s n := by
  unfold enab
  rw [List.range_succ, List.filter_append, List.map_append]
  by_cases h : evalT w c.1 s = 1
  · rw [if_pos h, List.filter_cons_of_pos (by simp [h, hc])]; rfl
  · rw [if_neg h, List.filter_cons_of_neg (by simp [h, hc])]; simp
theorem enab_len {w n : Nat} {cmds : List PCommand} {s : List Nat} : (enab w cmds s n).length ≤ n := by
  unfold enab
  rw [List.length_map]
  exact Nat.le_trans (List.length_filter_le _ _) (by simp)
theorem k_enabS {p : PProg} {s : List Nat} {w v : Nat} (hg : goodP p) (e1 : p.1 = w) (e2 : p.2.1 = v) (hs : s.length = v) (hsw : ∀ x ∈ s, x < 2 ^ w) {H : Heap} : ACall Try.prog 54 [eP p, eU s] H fun r H' => ∃ ver, r = .ref 900 ver 0 (enab w p.2.2.2 s p.2.2.2.length).length ∧ H' 900 = .cells ver 3 1 ((enab w p.2.2.2 s p.2.2.2.length).map I64) := by
  refine call54 (by simp) ?_
  simp only [Try.results54, Try.ntmps54, Try.f54, Option.getD_some, pl54]
  have hcl := hg.2.1
  simp only [go_sem]
  refine ALoop.thaw 900 3 1 (t := 5) (by simp only [go_sem]) ?_
  refine ALoop.intro (pl := pl54) (fun k env H => ∃ (i v2 sv : Nat), env 1 = eU s ∧ env 2 = .ptr 2 v2 0 ∧ env 5 = .ref 900 sv 0 (enab w p.2.2.2 s i).length ∧ env 9 = eCos p.2.2.2 ∧ env 10 = I64 p.2.2.2.length ∧ env 11 = I64 i ∧ H 2 = .cells v2 33 1 [I64 p.1, I64 p.2.1, eNs p.2.2.1, eCos p.2.2.2] ∧ H 900 = .cells sv 3 1 ((enab w p.2.2.2 s i).map I64) ∧ i + k = p.2.2.2.length) p.2.2.2.length (by kernel_rfl) ?_ ?_
  · simp only [go_sem]
    exact ⟨0, _, _, rfl, rfl, rfl, rfl, rfl, by omega⟩
  · rintro k env H ⟨i, v2, sv, t1, t2, t5, t9, t10, t11, b2, b9, hk⟩
    have hwi : IntKind.wrap .i64 ((i : Int) + 1) = i + 1 := i64_in _ (by omega)
    have hle := enab_len (w := w) (cmds := p.2.2.2) (s := s) (n := i)
    by_cases hz : (i : Int) < p.2.2.2.length
    · have h0 : (0 : Int) ≤ i := by omega
      obtain ⟨x, hx⟩ := get_some (l := p.2.2.2) (i := i) (by omega)
      have hok := hg.2.2 x (List.mem_of_getElem? hx)
      simp only [go_sem, pl54, t1, t2, t5, t9, t10, t11, b2, b9, hz, h0, hx]
      refine c_holdsS (p := p) (w := w) (vars := v) (t := x.1) (s := s) e1 (by rw [← e1, ← e2, hok.1]; omega) hs hsw ?_
      have hsucc := enab_succ (w := w) (s := s) hx
      by_cases hh : evalT w x.1 s = 1
      · rw [if_pos hh] at hsucc
        simp only [go_sem, pl54, t1, t2, t5, t9, t10, t11, b2, b9, hh, hwi]
        refine ⟨by omega, k - 1, by omega, i + 1, v2, sv + 1, rfl, ?_, rfl, rfl, ?_, by omega⟩
        · rw [hsucc, List.length_append]; rfl
        · rw [hsucc, List.map_append]; rfl
      · rw [if_neg hh] at hsucc
        simp only [go_sem, pl54, t1, t2, t5, t9, t10, t11, b2, b9, hh, hwi]
        exact ⟨k - 1, by omega, i + 1, v2, sv, rfl, by rw [hsucc], rfl, rfl, by rw [hsucc], by omega⟩
    · simp only [go_sem, pl54, t1, t2, t5, t9, t10, t11, b2, b9, hz]
      have : i = p.2.2.2.length := by omega
      subst this
      exact ⟨sv, rfl, rfl⟩
def enabledOf (p : PProg) (s : List Nat) : List Int := if stateOk p s then enab p.1.toNat p.2.2.2 s p.2.2.2.length else []
theorem enabled_ok {p : PProg} {s : List Nat} {w : Nat} (h : stateOk p s) (e : p.1 = w) : enabledOf p s = enab w p.2.2.2 s p.2.2.2.length := by
  unfold enabledOf
  rw [if_pos h, e, Int.toNat_natCast]
theorem enabled_len {p : PProg} {s : List Nat} : (enabledOf p s).length ≤ 6 := by
  unfold enabledOf
  split
  · rename_i h
    exact Nat.le_trans enab_len h.1.2.1.2
  · simp
theorem k_enabledI {p : PProg} {s : List Nat} (hw : wfP p) (hsm : smProgram p) (hs : wfU s) (hl : s.length ≤ 1000000000) {H : Heap} : ACall Try.prog 27 [eP p, eU s] H fun r H' =>
    (stateOk p s ∧ ∃ ver, r = .tup [.ref 13 ver 0 (enabledOf p s).length, .bool true] ∧ H' 13 = .cells ver 3 1 ((enabledOf p s).map I64)) ∨ (¬ stateOk p s ∧ r = .tup [.nil, .bool false] ∧ H' 1000000 = H 1000000) := by
  refine call27 (by simp) ?_
  simp only [Try.results27, Try.ntmps27, Try.f27, Option.getD_some, pl27]
  simp only [go_sem]
  refine c_isStateOf (p := p) hw hsm hs hl ?_
  by_cases h : stateOk p s
  · obtain ⟨w, v, e1, e2, _, _, _, _, h5, h6⟩ := state_conds h
    have hen := enabled_ok h e1
    have hcl := h.1.2.1
    simp only [go_sem, h, hen]
    refine ALoop.intro (pl := pl27) (fun k env H => ∃ (i v2 sv : Nat), env 1 = eU s ∧ env 2 = .ptr 2 v2 0 ∧ env 6 = .ref 13 sv 0 (enab w p.2.2.2 s i).length ∧ env 15 = eCos p.2.2.2 ∧ env 16 = I64 p.2.2.2.length ∧ env 17 = I64 i ∧ H 2 = .cells v2 33 1 [I64 p.1, I64 p.2.1, eNs p.2.2.1, eCos p.2.2.2] ∧ H 13 = .cells sv 3 1 ((enab w p.2.2.2 s i).map I64) ∧ i + k = p.2.2.2.length) p.2.2.2.length (by kernel_rfl) ?_ ?_
    · simp only [go_sem]
      exact ⟨0, _, _, rfl, rfl, rfl, rfl, rfl, by omega⟩
    · rintro k env H ⟨i, v2, sv, t1, t2, t5, t9, t10, t11, b2, b9, hk⟩
      have hwi : IntKind.wrap .i64 ((i : Int) + 1) = i + 1 := i64_in _ (by omega)
      have hle := enab_len (w := w) (cmds := p.2.2.2) (s := s) (n := i)
      by_cases hz : (i : Int) < p.2.2.2.length
      · have h0 : (0 : Int) ≤ i := by omega
        obtain ⟨x, hx⟩ := get_some (l := p.2.2.2) (i := i) (by omega)
        have hok := h.1.2.2 x (List.mem_of_getElem? hx)
        simp only [go_sem, pl27, t1, t2, t5, t9, t10, t11, b2, b9, hz, h0, hx]
        refine c_holdsI (p := p) (w := w) (vars := v) (t := x.1) (s := s) e1 (by rw [← e1, ← e2, hok.1]; omega) h5 h6 ?_
        have hsucc := enab_succ (w := w) (s := s) hx
        by_cases hh : evalT w x.1 s = 1
        · rw [if_pos hh] at hsucc
          simp only [go_sem, pl27, t1, t2, t5, t9, t10, t11, b2, b9, hh, hwi]
          refine ⟨by omega, k - 1, by omega, i + 1, v2, sv + 1, rfl, ?_, rfl, rfl, ?_, by omega⟩
          · rw [hsucc, List.length_append]; rfl
          · rw [hsucc, List.map_append]; rfl
        · rw [if_neg hh] at hsucc
          simp only [go_sem, pl27, t1, t2, t5, t9, t10, t11, b2, b9, hh, hwi]
          exact ⟨k - 1, by omega, i + 1, v2, sv, rfl, by rw [hsucc], rfl, rfl, by rw [hsucc], by omega⟩
      · simp only [go_sem, pl27, t1, t2, t5, t9, t10, t11, b2, b9, hz]
        have : i = p.2.2.2.length := by omega
        subst this
        exact .inl ⟨h, sv, by rw [hen], by rw [hen]⟩
  · simp only [go_sem, h]
    exact .inr (by simp [upd])
end Go.Proofs.Ytclpodljplkbbaa

set_option linter.unusedVariables false
set_option linter.unusedSimpArgs false
namespace Go.Proofs.Ytclpodljplkbbaa
open Go.Abs Go.IntWalk
set_option maxRecDepth 100000
attribute [local go_sem] eI eU eNs eN cN eChs eCh cCh eCos eCo cCo eP take_map
theorem enabled_no {p : PProg} {s : List Nat} (h : ¬ stateOk p s) : enabledOf p s = [] := by unfold enabledOf; rw [if_neg h]
theorem c_enabledI {p : PProg} {s : List Nat} (hw : wfP p) (hsm : smProgram p) (hs : wfU s) (hl : s.length ≤ 1000000000) {H : Heap} {K : AV → Heap → Prop} (hK : K (.tup [eI (enabledOf p s), .bool (decide (stateOk p s))]) H) : ACall Try.prog 27 [eP p, eU s] H K := by
  refine ACall.pure rfl (k_enabledI hw hsm hs hl) ?_
  rintro r H' (⟨h, ver, rfl, h1⟩ | ⟨h, rfl, _⟩)
  · rw [decide_eq_true h] at hK
    exact ⟨_, .tup2 (resI rfl rfl h1) (.cl rfl), rfl, hK⟩
  · rw [decide_eq_false h, enabled_no h] at hK
    exact ⟨_, .tup2 (.frz _ _ (.nil 1)) (.cl rfl), rfl, hK⟩
theorem c_enabS {p : PProg} {s : List Nat} {w v : Nat} (hg : goodP p) (e1 : p.1 = w) (e2 : p.2.1 = v) (hs : s.length = v) (hsw : ∀ x ∈ s, x < 2 ^ w) {H : Heap} {K : AV → Heap → Prop} (hK : K (eI (enab w p.2.2.2 s p.2.2.2.length)) H) : ACall Try.prog 54 [eP p, eU s] H K := by
  refine ACall.pure rfl (k_enabS hg e1 e2 hs hsw) ?_
  rintro r H' ⟨ver, rfl, h⟩
  exact ⟨_, resI rfl rfl h, rfl, hK⟩
theorem c_enabledS {p : PProg} {s : List Nat} (hw : wfP p) (hsm : smProgram p) (hs : wfU s) (hl : s.length ≤ 1000000000) {H : Heap} {K : AV → Heap → Prop} (hK : K (.tup [eI (enabledOf p s), .bool (decide (stateOk p s))]) H) : ACall Try.prog 26 [eP p, eU s] H K := by
  refine ACall.pure (R := fun r _ => (stateOk p s ∧ r = .tup [eI (enabledOf p s), .bool true]) ∨ (¬ stateOk p s ∧ r = .tup [.nil, .bool false])) rfl ?_ ?_
  · refine call26 (by simp) ?_
    simp only [Try.results26, Try.ntmps26, Try.f26, Option.getD_some, pl26]
    simp only [go_sem]
    refine c_goodPS (p := p) hw hsm ?_
    by_cases hg : goodP p
    · simp only [go_sem, hg]
      refine c_l7State (p := p) hs hl ?_
      by_cases h2 : okS p.1 p.2.1 s
      · have h : stateOk p s := ⟨hg, h2⟩
        obtain ⟨w, v, e1, e2, _, _, _, _, h5, h6⟩ := state_conds h
        simp only [go_sem, h2]
        refine c_enabS (p := p) hg e1 e2 h5 h6 ?_
        simp only [go_sem]
        exact .inl ⟨h, by rw [enabled_ok h e1]⟩
      · have h : ¬ stateOk p s := fun e => h2 e.2
        simp only [go_sem, h2]
        first | exact .inr ⟨h, rfl⟩ | exact .inr h
    · have h : ¬ stateOk p s := fun e => hg e.1
      simp only [go_sem, hg]
      first | exact .inr ⟨h, rfl⟩ | exact .inr h
  · rintro r H' (⟨h, rfl⟩ | ⟨h, rfl⟩)
    · rw [decide_eq_true h] at hK
      exact ⟨_, .cl rfl, rfl, hK⟩
    · rw [decide_eq_false h, enabled_no h] at hK
      exact ⟨_, .tup2 (.frz _ _ (.nil 1)) (.cl rfl), rfl, hK⟩
theorem frU {l : List Nat} {H : Heap} {id ver T : Nat} {β : Nat → Bool} (hb : β id = true) (h : H id = .cells ver T 1 (l.map U64)) : FRes H β anyAV (.ref id ver 0 l.length) (eU l) := FRes.map1 (f := U64) (fun _ => rfl) (fun _ => rfl) rfl hb h
/-- Enabled on things that are lent; what comes back is ours, under the name e. -/
theorem m_enabledI {p : PProg} {s : List Nat} {d e f ver0 T : Nat} {A : List AV} (hw : wfP p) (hsm : smProgram p) (hs : wfU s) (hl : s.length ≤ 1000000000) {H H1 : Heap} {K : AV → Heap → Prop} (hA : oP d H1 p = A) (ha : atP d H1 p) (hcg : ∀ i, d ≤ i → H i = H1 i) (he : e < d) (hf : H f = .cells ver0 T 1 (s.map U64)) (hef : f ≠ e) (he0 : 1000000 ≤ e) (hg : ∃ v0, H e = .gone v0)
    (h1 : stateOk p s → ∀ ver, K (.tup [.ref e ver 0 (enabledOf p s).length, .bool true]) (upd H e (.cells ver 3 1 ((enabledOf p s).map I64)))) (h2 : ¬ stateOk p s → K (.tup [.nil, .bool false]) H) : ACall Try.prog 27 [.agg A, .ref f ver0 0 s.length] H K := by
  have e1 : oP d H p = oP d H1 p := oP_congr fun i h _ => hcg i h
  rw [← hA, ← e1]
  have ha : atP d H p := atP_congr (fun i h _ => hcg i h) ha
  obtain ⟨v0, hg⟩ := hg
  refine ACall.handL [e] [.gone v0] (by simp) ⟨by rw [hg]; rfl, trivial⟩ (by simp [Blk.inB]) (args' := [eP p, eU s]) (.cons _ _ _ _ (.frz _ _ (fr_p ha fun i h3 h4 => ?_)) (.cons _ _ _ _ (.frz _ _ (frU ?_ hf)) .nil))
    (R := fun r H' => (stateOk p s ∧ ∃ ver, r = .tup [.ref 1000000 ver 0 (enabledOf p s).length, .bool true] ∧ H' 1000000 = .cells ver 3 1 ((enabledOf p s).map I64)) ∨ (¬ stateOk p s ∧ r = .tup [.nil, .bool false] ∧ H' 1000000 = .gone v0)) ?_ ?_
  · simp; omega
  · simp; exact hef
  · refine ACall.own 1000000 (by omega) (k_enabledI hw hsm hs hl) ?_
    rintro r H' (⟨h, ver, rfl, h3⟩ | ⟨h, rfl, h3⟩)
    · refine .inl ⟨13, ver, 3, 1, _, _, by omega, h3, .tup _ [.ref 1000000 _ 0 (enabledOf p s).length, .bool true] rfl fun i x y hx hy => ?_, .inl ⟨h, _, rfl, upd_same ..⟩⟩
      match i with
      | 0 => simp at hx hy; subst hx hy; exact .ref ..
      | 1 => simp at hx hy; subst hx hy; exact .same _
      | i + 2 => simp at hx
    · exact .inr (.inr (.inr ⟨h, rfl, by rw [h3]; rfl⟩))
  · rintro r H' (⟨hs, ver, rfl, h⟩ | ⟨hs, rfl, h⟩)
    · refine ⟨[.cells ver 3 1 ((enabledOf p s).map I64)], ⟨h, trivial⟩, rfl, ?_, rfl, ?_⟩
      · simp only [List.all_cons, List.all_nil, Bool.and_true, Blk.inB]
        exact within_plainM (fun _ => rfl) _
      · have := h1 hs ver
        simp only [lays, Blk.ren, renL_closed _ _ (cll_map (f := I64) (l := enabledOf p s) fun _ => rfl)]
        exact this
    · refine ⟨[.gone v0], ⟨h, trivial⟩, rfl, by simp [Blk.inB], rfl, ?_⟩
      simp only [lays, Blk.ren]
      have := h2 hs
      have e0 : rhoL [e] 1000000 = e := rfl
      rw [show upd H e (.gone v0) = H from by rw [← hg, upd_self]]
      exact this
theorem l_eqUint64S {a b : List Nat} {x y : AV} {H : Heap} {K : AV → Heap → Prop} (hx : FRes H (fun _ => true) anyAV x (eU a)) (hy : FRes H (fun _ => true) anyAV y (eU b)) (ha : a.length ≤ 1048576) (hb : b.length ≤ 1048576) (hK : K (.bool (decide (a = b))) H) : ACall Try.prog 19 [x, y] H K :=
  ACall.peek (R := fun r _ => r = .bool (decide (a = b))) (c_eqUint64S ha hb rfl) (.cons _ _ _ _ (.frz _ _ hx) (.cons _ _ _ _ (.frz _ _ hy) .nil)) fun r H' h => by subst h; exact ⟨rfl, hK⟩
end Go.Proofs.Ytclpodljplkbbaa

set_option linter.unusedVariables false
set_option linter.unusedSimpArgs false
namespace Go.Proofs.Ytclpodljplkbbaa
open Go.Abs Go.IntWalk
set_option maxRecDepth 100000
attribute [local go_sem] eI eU eNs eN cN eChs eCh cCh eCos eCo cCo eP take_map
/-- The law of Enabled: true, whatever it is given. -/
theorem c_lawEnabled {p : PProg} {s : List Nat} (hw : wfP p) (hb : bdProgram p) (hs : wfU s) (hsl : s.length ≤ 9223372036854775807) : ACall Try.prog 6 [eP p, eU s] H0 fun r _ => r = .bool true := by
  refine call6 (by simp) ?_
  simp only [Try.results6, Try.ntmps6, Try.f6, Option.getD_some, pl6]
  by_cases h0 : 1048576 < (s.length : Int)
  · simp only [go_sem, h0]
  have hl : s.length ≤ 1048576 := by omega
  simp only [go_sem, h0]
  refine c_szProgram (x := p) (by omega) (by omega) hb fun r hr => ?_
  by_cases h1 : r < 0
  · simp only [go_sem, h1, decide_true]
  · simp only [go_sem, h1, decide_false]
    obtain ⟨hrl, hsm⟩ := hr (by omega)
    refine c_toProgram (x := p) hsm ?_
    simp only [go_sem]
    refine c_toUint64S (t := s) hl ?_
    simp only [go_sem]
    refine c_enabledS (p := p) hw hsm hs (by omega) ?_
    simp only [go_sem]
    refine o_toProgram (p := p) 2000000 (by omega) hsm (fun i h2 h3 => ⟨0, ?_⟩) fun H1 hag1 ha => ?_
    · simp only [upd]
      repeat rw [if_neg (by omega)]
      rfl
    · have hlo1 : ∀ i, i < 2000000 → H1 i = _ := fun i hi => hag1 i (.inl hi)
      simp only [go_sem, hlo1, oP, Nat.reduceLT]
      refine o_toUint64S (t := s) 1000001 (by omega) hl ⟨0, ?_⟩ fun ver0 => ?_
      · simp only [go_sem, hlo1, Nat.reduceLT]
        try rfl
      simp only [go_sem, hlo1, Nat.reduceLT]
      have hcg : ∀ a b c i, 2000000 ≤ i → upd (upd (upd H1 8 a) 8 b) 1000001 c i = H1 i := fun a b c i h => by
        simp only [upd]
        repeat rw [if_neg (by omega)]
      have hsl := enabled_len (p := p) (s := s)
      refine m_enabledI (d := 2000000) (e := 1000000) (f := 1000001) (T := 62) (H1 := H1) hw hsm hs (by omega) rfl ha (fun i h => hcg _ _ _ i h) (by omega) (by simp only [go_sem]) (by omega) (by omega) ⟨0, ?_⟩ (fun hst ver => ?_) fun hst => ?_
      · simp only [go_sem, hlo1, Nat.reduceLT]
        try rfl
      · simp only [go_sem, hlo1, Nat.reduceLT, hst]
        have hn0 : ¬ (1 + ((enabledOf p s).length : Int)) < 0 := by omega
        refine l_eqIntS (a := enabledOf p s) (b := enabledOf p s) (frI (T := 3) rfl (by simp only [go_sem])) (.cl _ rfl) (by omega) (by omega) ?_
        simp only [go_sem, hlo1, Nat.reduceLT, hst, decide_true]
        refine c_toProgram (x := p) hsm ?_
        simp only [go_sem, hlo1, Nat.reduceLT]
        refine m_eqProgram (d := 2000000) (p := p) (q := p) (H1 := H1) rfl ha (fun i h => ?_) hsm hsm ?_
        · rw [upd_ne _ _ (by omega)]; exact hcg _ _ _ i h
        simp only [go_sem, hlo1, Nat.reduceLT, decide_true]
        refine c_toUint64S (t := s) hl ?_
        simp only [go_sem, hlo1, Nat.reduceLT]
        refine l_eqUint64S (a := s) (b := s) (frU (T := 62) rfl (by simp only [go_sem])) (.cl _ rfl) hl hl ?_
        simp only [go_sem, hlo1, Nat.reduceLT, decide_true]
        refine m_markProgram (d := 2000000) (p := p) (H1 := H1) rfl ha (fun i h => ?_) (by omega) hsm (by omega) (by omega) fun k1 H4 hag4 hk1 hk2 => ?_
        · rw [upd_ne _ _ (by omega)]; exact hcg _ _ _ i h
        have hlo4 : ∀ i, i < 2000000 → H4 i = _ := fun i hi => hag4 i (.inl hi)
        have hk1' : ¬ k1 + (s.length : Int) < 0 := by omega
        simp only [go_sem, hlo4, hlo1, Nat.reduceLT]
        refine o_markUint64S (d := 1000001) (n := s.length) (C := s.map U64) (by omega) (by simp only [go_sem, hlo4, hlo1, Nat.reduceLT]) (by simp) (cll_map fun _ => rfl) (by omega) (by omega) (by omega) ?_
        simp only [go_sem, hlo4, hlo1, Nat.reduceLT, hk1']
        refine l_eqIntS (a := enabledOf p s) (b := enabledOf p s) (frI (T := 3) rfl (by simp only [go_sem, hlo4, hlo1, Nat.reduceLT])) (.cl _ rfl) (by omega) (by omega) ?_
        simp only [go_sem, hlo4, hlo1, Nat.reduceLT, hst, decide_true]
        refine o_markIntS (d := 1000000) (C := (enabledOf p s).map I64) (by omega) (by simp only [go_sem, hlo4, hlo1, Nat.reduceLT]) (by simp) (cll_map fun _ => rfl) (by omega) (by omega) (by omega) ?_
        simp only [go_sem, hlo4, hlo1, Nat.reduceLT]
        refine l_heldIntS (n := (enabledOf p s).length) (k := 1) (frC (T := 3) rfl (by simp only [go_sem])) (by omega) (by omega) (by omega) ?_
        simp only [go_sem, hlo4, hlo1, Nat.reduceLT, hn0]
        refine c_toProgram (x := p) hsm ?_
        simp only [go_sem, hlo4, hlo1, Nat.reduceLT]
        refine c_toUint64S (t := s) hl ?_
        simp only [go_sem, hlo4, hlo1, Nat.reduceLT]
        refine c_enabledI (p := p) hw hsm hs (by omega) ?_
        simp only [go_sem, hlo4, hlo1, Nat.reduceLT, hst, decide_true]
        refine c_eqIntS (a := enabledOf p s) (b := enabledOf p s) (by omega) (by omega) ?_
        simp only [go_sem, hlo4, hlo1, Nat.reduceLT, hst, decide_true]
        refine l_heldIntS (n := (enabledOf p s).length) (k := 1) (frC (T := 3) rfl (by simp only [go_sem])) (by omega) (by omega) (by omega) ?_
        simp only [go_sem, hlo4, hlo1, Nat.reduceLT, hn0]
      · have z0 : 1 + ((0 : Nat) : Int) = 1 := rfl
        have hnil : enabledOf p s = [] := enabled_no hst
        simp only [go_sem, hlo1, Nat.reduceLT, hst, hnil]
        refine l_eqIntS (a := []) (b := []) (.nil 1) (.cl _ rfl) (by simp) (by simp) ?_
        simp only [go_sem, hlo1, Nat.reduceLT, hst, hnil, decide_true]
        refine c_toProgram (x := p) hsm ?_
        simp only [go_sem, hlo1, Nat.reduceLT]
        refine m_eqProgram (d := 2000000) (p := p) (q := p) (H1 := H1) rfl ha (fun i h => ?_) hsm hsm ?_
        · exact hcg _ _ _ i h
        simp only [go_sem, hlo1, Nat.reduceLT, decide_true]
        refine c_toUint64S (t := s) hl ?_
        simp only [go_sem, hlo1, Nat.reduceLT]
        refine l_eqUint64S (a := s) (b := s) (frU (T := 62) rfl (by simp only [go_sem])) (.cl _ rfl) hl hl ?_
        simp only [go_sem, hlo1, Nat.reduceLT, decide_true]
        refine m_markProgram (d := 2000000) (p := p) (H1 := H1) rfl ha (fun i h => ?_) (by omega) hsm (by omega) (by omega) fun k1 H4 hag4 hk1 hk2 => ?_
        · exact hcg _ _ _ i h
        have hlo4 : ∀ i, i < 2000000 → H4 i = _ := fun i hi => hag4 i (.inl hi)
        have hk1' : ¬ k1 + (s.length : Int) < 0 := by omega
        simp only [go_sem, hlo4, hlo1, Nat.reduceLT]
        refine o_markUint64S (d := 1000001) (n := s.length) (C := s.map U64) (by omega) (by simp only [go_sem, hlo4, hlo1, Nat.reduceLT]) (by simp) (cll_map fun _ => rfl) (by omega) (by omega) (by omega) ?_
        simp only [go_sem, hlo4, hlo1, Nat.reduceLT, hk1']
        refine l_eqIntS (a := []) (b := enabledOf p s) (.nil 1) (.cl _ rfl) (by simp) (by omega) ?_
        simp only [go_sem, hlo4, hlo1, Nat.reduceLT, hst, hnil, decide_true]
        refine n_markIntS ?_
        simp only [go_sem, hlo4, hlo1, Nat.reduceLT]
        refine l_heldIntS (n := 0) (k := 1) (.nil 1) (by omega) (by omega) (by omega) ?_
        simp only [go_sem, hlo4, hlo1, Nat.reduceLT, z0]
        refine c_toProgram (x := p) hsm ?_
        simp only [go_sem, hlo4, hlo1, Nat.reduceLT]
        refine c_toUint64S (t := s) hl ?_
        simp only [go_sem, hlo4, hlo1, Nat.reduceLT]
        refine c_enabledI (p := p) hw hsm hs (by omega) ?_
        simp only [go_sem, hlo4, hlo1, Nat.reduceLT, hst, hnil, decide_true]
        refine c_eqIntS (a := []) (b := []) (by simp) (by simp) ?_
        simp only [go_sem, hlo4, hlo1, Nat.reduceLT, hst, hnil, decide_true]
        refine l_heldIntS (n := 0) (k := 1) (.nil 1) (by omega) (by omega) (by omega) ?_
        simp only [go_sem, hlo4, hlo1, Nat.reduceLT, z0]
end Go.Proofs.Ytclpodljplkbbaa
