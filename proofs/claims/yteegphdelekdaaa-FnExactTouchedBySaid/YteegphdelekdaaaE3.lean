/- Texts of ours, joined: YteegphdelekdaaaH13 YteegphdelekdaaaH14 YteegphdelekdaaaH15 YteegphdelekdaaaH16 YteegphdelekdaaaH17 YteegphdelekdaaaH18. -/
import Derived.Test.YteegphdelekdaaaE2
set_option linter.unusedVariables false
set_option linter.unusedSimpArgs false
namespace Go.Proofs.Yteegphdelekdaaa
open Go.Abs Go.IntWalk
set_option maxRecDepth 100000
attribute [local go_sem] eI eU eNs eN cN eChs eCh cCh eCos eCo cCo eP take_map
/-! What a good program is. -/
def chsOk (wide vars : Int) : Int → List PChange → Prop
  | _, [] => True
  | prev, x :: xs => (0 ≤ x.1 ∧ x.1 < vars) ∧ prev < x.1 ∧ kindT wide vars x.2 = 1 ∧ chsOk wide vars x.1 xs
instance decChs (wide vars : Int) : (prev : Int) → (l : List PChange) → Decidable (chsOk wide vars prev l)
  | _, [] => .isTrue trivial
  | prev, x :: xs => have := decChs wide vars x.1 xs; by unfold chsOk; infer_instance
def cmdOk (wide vars : Int) (c : PCommand) : Prop := kindT wide vars c.1 = 2 ∧ chsOk wide vars (-1) c.2
instance (wide vars : Int) (c : PCommand) : Decidable (cmdOk wide vars c) := by unfold cmdOk; infer_instance
def goodP (p : PProg) : Prop := kindT p.1 p.2.1 p.2.2.1 = 2 ∧ (1 ≤ p.2.2.2.length ∧ p.2.2.2.length ≤ 6) ∧ ∀ c ∈ p.2.2.2, cmdOk p.1 p.2.1 c
instance (p : PProg) : Decidable (goodP p) := by unfold goodP; infer_instance
def wfC (c : PCommand) : Prop := wfT c.1 ∧ ∀ x ∈ c.2, wfT x.2
def wfP (p : PProg) : Prop := wfT p.2.2.1 ∧ ∀ c ∈ p.2.2.2, wfC c
theorem smN {t : List PNode} (h : smNodeS t) : t.length ≤ 1000000000 := by have := h.1; omega
theorem chs_len {wide vars : Int} : ∀ {l : List PChange} {prev : Int}, chsOk wide vars prev l → l ≠ [] → prev + l.length ≤ vars - 1
  | [], prev, _, h => absurd rfl h
  | [x], prev, h, _ => by have h1 := h.1; have h2 := h.2.1; simp; omega
  | x :: y :: l, prev, h, _ => by
    have := chs_len h.2.2.2 (by simp)
    have h2 := h.2.1
    simp only [List.length_cons] at this ⊢
    omega
theorem c_condI {p : PProg} {t : List PNode} (ht : wfT t) (hl : t.length ≤ 1000000000) {H : Heap} {K : AV → Heap → Prop} (hK : K (.bool (decide (kindT p.1 p.2.1 t = 2))) H) : ACall Try.prog 50 [eP p, eNs t] H K := by
  refine pureC rfl rfl ?_ hK
  refine call50 (by simp) ?_
  simp only [Try.results50, Try.ntmps50, Try.f50, Option.getD_some, pl50]
  simp only [go_sem]
  refine c_isTerm (wide := p.1) (vars := p.2.1) ht hl (by omega) ?_
  simp only [go_sem]
theorem c_condS {p : PProg} {t : List PNode} (ht : wfT t) (hl : t.length ≤ 1000000000) {H : Heap} {K : AV → Heap → Prop} (hK : K (.bool (decide (kindT p.1 p.2.1 t = 2))) H) : ACall Try.prog 46 [eP p, eNs t] H K := by
  refine pureC rfl rfl ?_ hK
  refine call46 (by simp) ?_
  simp only [Try.results46, Try.ntmps46, Try.f46, Option.getD_some, pl46]
  simp only [go_sem]
  refine c_kindS (wide := p.1) (vars := p.2.1) ht hl ?_
  simp only [go_sem]
theorem c_cmdI {p : PProg} {c : PCommand} (hw : wfC c) (hsm : smCommand c) {H : Heap} {K : AV → Heap → Prop} (hK : K (.bool (decide (cmdOk p.1 p.2.1 c))) H) : ACall Try.prog 53 [eP p, eCo c] H K := by
  obtain ⟨wide, vars, start, cmds⟩ := p
  obtain ⟨when, chs⟩ := c
  refine pureC rfl rfl ?_ hK
  refine call53 (by simp) ?_
  simp only [Try.results53, Try.ntmps53, Try.f53, Option.getD_some, pl53]
  simp only [go_sem]
  have hl := hsm.2.1
  simp only at hl
  refine c_condI (p := (wide, vars, start, cmds)) hw.1 (smN hsm.1) ?_
  by_cases h1 : kindT wide vars when = 2
  · have hcs := kind_conds (show kindT wide vars when ≠ 0 by omega)
    simp only [go_sem, h1]
    refine ALoop.intro (pl := pl53) (fun k env H => ∃ (i v2 v3 : Nat) (prev : Int), env 2 = .ptr 2 v2 0 ∧ env 3 = .ptr 3 v3 0 ∧ env 13 = eChs chs ∧ env 14 = I64 chs.length ∧ env 15 = I64 i ∧ H 2 = .cells v2 32 1 [I64 wide, I64 vars, eNs start, eCos cmds] ∧ H 3 = .cells v3 57 1 [eNs when, eChs chs] ∧
      i + k = chs.length ∧ (i = 0 → prev = -1) ∧ (0 < i → ∃ y, chs[i - 1]? = some y ∧ y.1 = prev) ∧ (chsOk wide vars prev (chs.drop i) ↔ chsOk wide vars (-1) chs)) chs.length (by kernel_rfl) ?_ ?_
    · simp only [go_sem]
      exact ⟨0, _, _, -1, rfl, rfl, rfl, rfl, rfl, by omega, fun _ => rfl, fun h => absurd h (by omega), by simp⟩
    · rintro k env H ⟨i, v2, v3, prev, e2, e3, el, eL, eN, b2, b3, hk, hp0, hp1, hiff⟩
      by_cases hz : (i : Int) < chs.length
      · obtain ⟨x, hx⟩ := get_some (l := chs) (i := i) (by omega)
        have h0 : (0 : Int) ≤ i := by omega
        have hwi : IntKind.wrap .i64 ((i : Int) + 1) = i + 1 := i64_in _ (by omega)
        have hwv : IntKind.wrap .i64 (vars - 1) = vars - 1 := i64_in _ (by omega)
        have hxm := List.mem_of_getElem? hx
        rw [drop_step hx, chsOk] at hiff
        have nope : ¬ ((0 ≤ x.1 ∧ x.1 < vars) ∧ prev < x.1 ∧ kindT wide vars x.2 = 1 ∧ chsOk wide vars x.1 (chs.drop (i + 1))) → AV.bool false = AV.bool (decide (cmdOk wide vars (when, chs))) := fun h => bF fun e => h (hiff.2 e.2)
        have yes : (0 ≤ x.1 ∧ x.1 < vars) → prev < x.1 → kindT wide vars x.2 = 1 → ∃ k', k' < k ∧ ∃ (i2 v2' v3' : Nat) (prev2 : Int), AV.ptr 2 v2 0 = .ptr 2 v2' 0 ∧ AV.ptr 3 v3 0 = .ptr 3 v3' 0 ∧ AV.int .i64 (i + 1) = I64 i2 ∧ Blk.cells v2 32 1 [I64 wide, I64 vars, eNs start, eCos cmds] = .cells v2' 32 1 [I64 wide, I64 vars, eNs start, eCos cmds] ∧ Blk.cells v3 57 1 [eNs when, eChs chs] = .cells v3' 57 1 [eNs when, eChs chs] ∧
            i2 + k' = chs.length ∧ (i2 = 0 → prev2 = -1) ∧ (0 < i2 → ∃ y, chs[i2 - 1]? = some y ∧ y.1 = prev2) ∧ (chsOk wide vars prev2 (chs.drop i2) ↔ chsOk wide vars (-1) chs) := fun a1 a2 a3 =>
          ⟨k - 1, by omega, i + 1, v2, v3, x.1, rfl, rfl, rfl, rfl, rfl, by omega, fun h => absurd h (by omega), fun _ => ⟨x, by rw [Nat.add_sub_cancel]; exact hx, rfl⟩, by rw [← hiff]; exact ⟨fun h => ⟨a1, a2, a3, h⟩, fun h => h.2.2.2⟩⟩
        by_cases q1 : x.1 < 0
        · simp only [go_sem, pl53, e2, e3, el, eL, eN, b2, b3, hz, hx, h0, hwi, hwv, q1]
          exact nope fun h => by omega
        by_cases q2 : vars ≤ x.1
        · simp only [go_sem, pl53, e2, e3, el, eL, eN, b2, b3, hz, hx, h0, hwi, hwv, q1, q2]
          exact nope fun h => by omega
        by_cases qi : 0 < (i : Int)
        · obtain ⟨y, hy, hyp⟩ := hp1 (by omega)
          have hwp : IntKind.wrap .i64 ((i : Int) - 1) = ((i - 1 : Nat) : Int) := (i64_in _ (by omega)).trans (by omega)
          have hp00 : (0 : Int) ≤ ((i - 1 : Nat) : Int) := by omega
          by_cases q3 : x.1 ≤ y.1
          · simp only [go_sem, pl53, e2, e3, el, eL, eN, b2, b3, hz, hx, h0, hwi, hwv, q1, q2, qi, hwp, hp00, hy, q3]
            exact nope fun h => by omega
          · simp only [go_sem, pl53, e2, e3, el, eL, eN, b2, b3, hz, hx, h0, hwi, hwv, q1, q2, qi, hwp, hp00, hy, q3]
            refine c_isTerm (wide := wide) (vars := vars) (kind := 1) (t := x.2) (hw.2 x hxm) (smN (hsm.2.2 x hxm)) (by omega) ?_
            by_cases q4 : kindT wide vars x.2 = 1
            · simp only [go_sem, pl53, e2, e3, el, eL, eN, b2, b3, hz, hx, h0, hwi, hwv, q4]
              exact yes (by omega) (by omega) q4
            · simp only [go_sem, pl53, e2, e3, el, eL, eN, b2, b3, hz, hx, h0, hwi, hwv, q4]
              exact nope fun h => q4 h.2.2.1
        · have i0 : i = 0 := by omega
          have hpm := hp0 i0
          simp only [go_sem, pl53, e2, e3, el, eL, eN, b2, b3, hz, hx, h0, hwi, hwv, q1, q2, qi]
          refine c_isTerm (wide := wide) (vars := vars) (kind := 1) (t := x.2) (hw.2 x hxm) (smN (hsm.2.2 x hxm)) (by omega) ?_
          by_cases q4 : kindT wide vars x.2 = 1
          · simp only [go_sem, pl53, e2, e3, el, eL, eN, b2, b3, hz, hx, h0, hwi, hwv, q4]
            exact yes (by omega) (by omega) q4
          · simp only [go_sem, pl53, e2, e3, el, eL, eN, b2, b3, hz, hx, h0, hwi, hwv, q4]
            exact nope fun h => q4 h.2.2.1
      · simp only [go_sem, pl53, e2, e3, el, eL, eN, b2, b3, hz]
        rw [List.drop_of_length_le (by omega)] at hiff
        exact bT ⟨h1, hiff.1 trivial⟩
  · simp only [go_sem, h1]
    exact bF fun e => h1 e.1
theorem c_cmdS {p : PProg} {c : PCommand} (hw : wfC c) (hsm : smCommand c) {H : Heap} {K : AV → Heap → Prop} (hK : K (.bool (decide (cmdOk p.1 p.2.1 c))) H) : ACall Try.prog 47 [eP p, eCo c] H K := by
  obtain ⟨wide, vars, start, cmds⟩ := p
  obtain ⟨when, chs⟩ := c
  refine pureC rfl rfl ?_ hK
  refine call47 (by simp) ?_
  simp only [Try.results47, Try.ntmps47, Try.f47, Option.getD_some, pl47]
  simp only [go_sem]
  have hl := hsm.2.1
  simp only at hl
  refine c_condS (p := (wide, vars, start, cmds)) hw.1 (smN hsm.1) ?_
  by_cases h1 : kindT wide vars when = 2
  · have hcs := kind_conds (show kindT wide vars when ≠ 0 by omega)
    by_cases h2 : vars < (chs.length : Int)
    · simp only [go_sem, h1, h2]
      refine bF fun e => ?_
      by_cases he : chs = []
      · subst he; simp at h2; omega
      · have := chs_len e.2 he; simp only at this; omega
    simp only [go_sem, h1, h2]
    refine ALoop.intro (pl := pl47) (fun k env H => ∃ (i v2 v3 : Nat) (prev : Int), env 2 = .ptr 2 v2 0 ∧ env 3 = .ptr 3 v3 0 ∧ env 21 = eChs chs ∧ env 22 = I64 chs.length ∧ env 23 = I64 i ∧ H 2 = .cells v2 32 1 [I64 wide, I64 vars, eNs start, eCos cmds] ∧ H 3 = .cells v3 57 1 [eNs when, eChs chs] ∧
      i + k = chs.length ∧ (i = 0 → prev = -1) ∧ (0 < i → ∃ y, chs[i - 1]? = some y ∧ y.1 = prev) ∧ (chsOk wide vars prev (chs.drop i) ↔ chsOk wide vars (-1) chs)) chs.length (by kernel_rfl) ?_ ?_
    · simp only [go_sem]
      exact ⟨0, _, _, -1, rfl, rfl, rfl, rfl, rfl, by omega, fun _ => rfl, fun h => absurd h (by omega), by simp⟩
    · rintro k env H ⟨i, v2, v3, prev, e2, e3, el, eL, eN, b2, b3, hk, hp0, hp1, hiff⟩
      by_cases hz : (i : Int) < chs.length
      · obtain ⟨x, hx⟩ := get_some (l := chs) (i := i) (by omega)
        have h0 : (0 : Int) ≤ i := by omega
        have hwi : IntKind.wrap .i64 ((i : Int) + 1) = i + 1 := i64_in _ (by omega)
        have hwv : IntKind.wrap .i64 (vars - 1) = vars - 1 := i64_in _ (by omega)
        have hxm := List.mem_of_getElem? hx
        rw [drop_step hx, chsOk] at hiff
        have nope : ¬ ((0 ≤ x.1 ∧ x.1 < vars) ∧ prev < x.1 ∧ kindT wide vars x.2 = 1 ∧ chsOk wide vars x.1 (chs.drop (i + 1))) → AV.bool false = AV.bool (decide (cmdOk wide vars (when, chs))) := fun h => bF fun e => h (hiff.2 e.2)
        have yes : (0 ≤ x.1 ∧ x.1 < vars) → prev < x.1 → kindT wide vars x.2 = 1 → ∃ k', k' < k ∧ ∃ (i2 v2' v3' : Nat) (prev2 : Int), AV.ptr 2 v2 0 = .ptr 2 v2' 0 ∧ AV.ptr 3 v3 0 = .ptr 3 v3' 0 ∧ AV.int .i64 (i + 1) = I64 i2 ∧ Blk.cells v2 32 1 [I64 wide, I64 vars, eNs start, eCos cmds] = .cells v2' 32 1 [I64 wide, I64 vars, eNs start, eCos cmds] ∧ Blk.cells v3 57 1 [eNs when, eChs chs] = .cells v3' 57 1 [eNs when, eChs chs] ∧
            i2 + k' = chs.length ∧ (i2 = 0 → prev2 = -1) ∧ (0 < i2 → ∃ y, chs[i2 - 1]? = some y ∧ y.1 = prev2) ∧ (chsOk wide vars prev2 (chs.drop i2) ↔ chsOk wide vars (-1) chs) := fun a1 a2 a3 =>
          ⟨k - 1, by omega, i + 1, v2, v3, x.1, rfl, rfl, rfl, rfl, rfl, by omega, fun h => absurd h (by omega), fun _ => ⟨x, by rw [Nat.add_sub_cancel]; exact hx, rfl⟩, by rw [← hiff]; exact ⟨fun h => ⟨a1, a2, a3, h⟩, fun h => h.2.2.2⟩⟩
        simp only [go_sem, pl47, e2, e3, el, eL, eN, b2, b3, hz, hx, h0, hwi, hwv]
        refine c_in ?_
        by_cases q1 : 0 ≤ x.1 ∧ x.1 ≤ vars - 1
        · by_cases qi : 0 < (i : Int)
          · obtain ⟨y, hy, hyp⟩ := hp1 (by omega)
            have hwp : IntKind.wrap .i64 ((i : Int) - 1) = ((i - 1 : Nat) : Int) := (i64_in _ (by omega)).trans (by omega)
            have hp00 : (0 : Int) ≤ ((i - 1 : Nat) : Int) := by omega
            by_cases q3 : x.1 ≤ y.1
            · simp only [go_sem, pl47, e2, e3, el, eL, eN, b2, b3, hz, hx, h0, hwi, hwv, q1, qi, hwp, hp00, hy, q3]
              exact nope fun h => by omega
            · simp only [go_sem, pl47, e2, e3, el, eL, eN, b2, b3, hz, hx, h0, hwi, hwv, q1, qi, hwp, hp00, hy, q3]
              refine c_kindS (wide := wide) (vars := vars) (t := x.2) (hw.2 x hxm) (smN (hsm.2.2 x hxm)) ?_
              by_cases q4 : kindT wide vars x.2 = 1
              · simp only [go_sem, pl47, e2, e3, el, eL, eN, b2, b3, hz, hx, h0, hwi, hwv, q4]
                exact yes (by omega) (by omega) q4
              · simp only [go_sem, pl47, e2, e3, el, eL, eN, b2, b3, hz, hx, h0, hwi, hwv, q4]
                exact nope fun h => q4 h.2.2.1
          · have i0 : i = 0 := by omega
            have hpm := hp0 i0
            simp only [go_sem, pl47, e2, e3, el, eL, eN, b2, b3, hz, hx, h0, hwi, hwv, q1, qi]
            refine c_kindS (wide := wide) (vars := vars) (t := x.2) (hw.2 x hxm) (smN (hsm.2.2 x hxm)) ?_
            by_cases q4 : kindT wide vars x.2 = 1
            · simp only [go_sem, pl47, e2, e3, el, eL, eN, b2, b3, hz, hx, h0, hwi, hwv, q4]
              exact yes (by omega) (by omega) q4
            · simp only [go_sem, pl47, e2, e3, el, eL, eN, b2, b3, hz, hx, h0, hwi, hwv, q4]
              exact nope fun h => q4 h.2.2.1
        · simp only [go_sem, pl47, e2, e3, el, eL, eN, b2, b3, hz, hx, h0, hwi, hwv, q1]
          exact nope fun h => q1 (by omega)
      · simp only [go_sem, pl47, e2, e3, el, eL, eN, b2, b3, hz]
        rw [List.drop_of_length_le (by omega)] at hiff
        exact bT ⟨h1, hiff.1 trivial⟩
  · simp only [go_sem, h1]
    exact bF fun e => h1 e.1
end Go.Proofs.Yteegphdelekdaaa

set_option linter.unusedVariables false
set_option linter.unusedSimpArgs false
namespace Go.Proofs.Yteegphdelekdaaa
open Go.Abs Go.IntWalk
set_option maxRecDepth 100000
attribute [local go_sem] eI eU eNs eN cN eChs eCh cCh eCos eCo cCo eP take_map
theorem c_idxCo {wide vars : Int} {start : List PNode} {cmds : List PCommand} {l : List PCommand} {id v : Nat} {H : Heap} {K : AV → Heap → Prop} (hl : l.length ≤ 1000000000) (hH : H id = .cells v 32 1 [I64 wide, I64 vars, eNs start, eCos cmds])
    (hcl : ∀ x ∈ l, ∀ (H : Heap) (K : AV → Heap → Prop), H 1000000 = .cells v 32 1 [I64 wide, I64 vars, eNs start, eCos cmds] → K (.bool (decide (¬ cmdOk wide vars x))) H → ACall Try.prog 52 [eCo x, .ptr 1000000 v 0] H K) (hK : ∀ r, (0 ≤ r ↔ ¬ ∀ x ∈ l, ¬ (¬ cmdOk wide vars x)) → K (I64 r) H) : ACall Try.prog 62 [eCos l, .fn 52 [.ptr id v 0]] H K := by
  refine ACall.with1 (xs := [eCos l]) (R := fun r H' => H' 1000000 = .cells v 32 1 [I64 wide, I64 vars, eNs start, eCos cmds] ∧ ∃ q, r = I64 q ∧ (0 ≤ q ↔ ¬ ∀ x ∈ l, ¬ (¬ cmdOk wide vars x))) (.fn 52 [.ptr 1000000 v 0]) rfl hH rfl rfl ?_ ?_
  · refine call62 (by simp) ?_
    simp only [Try.results62, Try.ntmps62, Try.f62, Option.getD_some, pl62]
    simp only [go_sem]
    refine ALoop.intro (pl := pl62) (fun k env H => ∃ i : Nat, env 0 = eCos l ∧ env 1 = .fn 52 [.ptr 1000000 v 0] ∧ env 7 = I64 l.length ∧ env 8 = I64 i ∧ H 1000000 = .cells v 32 1 [I64 wide, I64 vars, eNs start, eCos cmds] ∧ i + k = l.length ∧ ∀ x ∈ l.take i, ¬ (¬ cmdOk wide vars x)) l.length (by kernel_rfl) ?_ ?_
    · simp only [go_sem]
      exact ⟨0, by simp⟩
    · rintro k env H ⟨i, e0, e1, e2, e3, b1, hk, ht⟩
      by_cases hz : (i : Int) < l.length
      · obtain ⟨x, hx⟩ := get_some (l := l) (i := i) (by omega)
        have hw : IntKind.wrap .i64 ((i : Int) + 1) = i + 1 := i64_in _ (by omega)
        have h0 : (0 : Int) ≤ i := by omega
        simp only [go_sem, e0, e1, e2, e3, hz, hx, h0]
        refine hcl x (List.mem_of_getElem? hx) _ _ b1 ?_
        by_cases hp : ¬ cmdOk wide vars x
        · simp only [go_sem, hp]
          exact ⟨b1, _, rfl, by simp only [h0, true_iff]; exact fun h => h x (List.mem_of_getElem? hx) hp⟩
        · simp only [go_sem, e0, e1, e2, e3, hp, hw]
          refine ⟨k - 1, by omega, i + 1, rfl, b1, by omega, ?_⟩
          intro y hy
          rw [take_one hx] at hy
          rcases List.mem_append.1 hy with hy | hy
          · exact ht y hy
          · rw [List.mem_singleton.1 hy]; exact hp
      · simp only [go_sem, e2, e3, hz]
        rw [List.take_of_length_le (by omega)] at ht
        exact ⟨b1, _, rfl, ⟨fun h => absurd h (by omega), fun h => absurd ht h⟩⟩
  · rintro r H' ⟨h, q, rfl, hq⟩
    exact ⟨h, _, .cl rfl, rfl, hK q hq⟩
theorem c_contCo {wide vars : Int} {start : List PNode} {cmds : List PCommand} {l : List PCommand} {id v : Nat} {H : Heap} {K : AV → Heap → Prop} (hl : l.length ≤ 1000000000) (hH : H id = .cells v 32 1 [I64 wide, I64 vars, eNs start, eCos cmds])
    (hcl : ∀ x ∈ l, ∀ (H : Heap) (K : AV → Heap → Prop), H 1000000 = .cells v 32 1 [I64 wide, I64 vars, eNs start, eCos cmds] → K (.bool (decide (¬ cmdOk wide vars x))) H → ACall Try.prog 52 [eCo x, .ptr 1000000 v 0] H K) (hK : K (.bool (decide (¬ ∀ x ∈ l, ¬ (¬ cmdOk wide vars x)))) H) : ACall Try.prog 51 [eCos l, .fn 52 [.ptr id v 0]] H K := by
  refine ACall.with1 (xs := [eCos l]) (R := fun r H' => H' 1000000 = .cells v 32 1 [I64 wide, I64 vars, eNs start, eCos cmds] ∧ r = .bool (decide (¬ ∀ x ∈ l, ¬ (¬ cmdOk wide vars x)))) (.fn 52 [.ptr 1000000 v 0]) rfl hH rfl rfl ?_ ?_
  · refine call51 (by simp) ?_
    simp only [Try.results51, Try.ntmps51, Try.f51, Option.getD_some, pl51]
    simp only [go_sem]
    refine c_idxCo (l := l) hl (HOne_at) hcl fun r hr => ?_
    simp only [go_sem, HOne_at]
    exact bE hr
  · rintro r H' ⟨h, rfl⟩
    exact ⟨h, _, .cl rfl, rfl, hK⟩
end Go.Proofs.Yteegphdelekdaaa

set_option linter.unusedVariables false
set_option linter.unusedSimpArgs false
namespace Go.Proofs.Yteegphdelekdaaa
open Go.Abs Go.IntWalk
set_option maxRecDepth 100000
attribute [local go_sem] eI eU eNs eN cN eChs eCh cCh eCos eCo cCo eP take_map
theorem good_conds {p : PProg} (h : goodP p) : wideOk p.1 ∧ (1 ≤ p.2.1 ∧ p.2.1 ≤ 4) := by
  have := kind_conds (show kindT p.1 p.2.1 p.2.2.1 ≠ 0 by rw [h.1]; omega)
  exact ⟨this.1, this.2.1⟩
theorem not_all_not {α : Type} {l : List α} {P : α → Prop} [DecidablePred P] : (¬ ∀ x ∈ l, ¬ ¬ P x) ↔ ¬ ∀ x ∈ l, P x := by
  constructor
  · exact fun h h2 => h fun x hx hn => hn (h2 x hx)
  · exact fun h h2 => h fun x hx => Decidable.byContradiction (h2 x hx)
/-- The closure of GoodProgram. -/
theorem c_goodCl {wide vars : Int} {start : List PNode} {cmds : List PCommand} {x : PCommand} {v : Nat} (hw : wfC x) (hsm : smCommand x) {H : Heap} {K : AV → Heap → Prop} (hH : H 1000000 = .cells v 32 1 [I64 wide, I64 vars, eNs start, eCos cmds]) (hK : K (.bool (decide (¬ cmdOk wide vars x))) H) :
    ACall Try.prog 52 [eCo x, .ptr 1000000 v 0] H K := by
  refine ACall.with1 (xs := [eCo x]) (R := fun r H' => r = .bool (decide (¬ cmdOk wide vars x)) ∧ H' 1000000 = .cells v 32 1 [I64 wide, I64 vars, eNs start, eCos cmds]) (.ptr 1000000 v 0) rfl hH rfl rfl ?_ ?_
  · refine call52 (by simp) ?_
    simp only [Try.results52, Try.ntmps52, Try.f52, Option.getD_some, pl52]
    simp only [go_sem]
    refine c_cmdI (p := (wide, vars, start, cmds)) (c := x) hw hsm ?_
    simp only [go_sem, decide_not]
  · rintro r H' ⟨rfl, h⟩
    exact ⟨h, _, .cl rfl, rfl, hK⟩
theorem c_goodPI {p : PProg} (hw : wfP p) (hsm : smProgram p) {H : Heap} {K : AV → Heap → Prop} (hK : K (.bool (decide (goodP p))) H) : ACall Try.prog 31 [eP p] H K := by
  obtain ⟨wide, vars, start, cmds⟩ := p
  refine pureC rfl rfl ?_ hK
  refine call31 (by simp) ?_
  simp only [Try.results31, Try.ntmps31, Try.f31, Option.getD_some, pl31]
  simp only [go_sem]
  have hl := hsm.2.1
  simp only at hl
  have bad : kindT wide vars start ≠ 2 → AV.bool false = AV.bool (decide (goodP (wide, vars, start, cmds))) := fun h => bF fun e => h e.1
  refine c_wideI ?_
  by_cases h1 : wideOk wide
  · simp only [go_sem, h1]
    refine c_varsI ?_
    by_cases h2 : 1 ≤ vars ∧ vars ≤ 4
    · simp only [go_sem, h2]
      refine c_condI (p := (wide, vars, start, cmds)) hw.1 (smN hsm.1) ?_
      by_cases h3 : kindT wide vars start = 2
      · by_cases h4 : (cmds.length : Int) < 1
        · simp only [go_sem, h3, h4]
          exact bF fun e => by have := e.2.1.1; simp only at this; omega
        · by_cases h5 : 6 < (cmds.length : Int)
          · simp only [go_sem, h3, h4, h5]
            exact bF fun e => by have := e.2.1.2; simp only at this; omega
          · simp only [go_sem, h3, h4, h5]
            refine c_contCo (wide := wide) (vars := vars) (start := start) (cmds := cmds) (l := cmds) (id := 1) (by omega) (by simp only [go_sem]) (fun x hx H K hH hK => c_goodCl (hw.2 x hx) (hsm.2.2 x hx) hH hK) ?_
            simp only [go_sem]
            have e : (!decide (¬ ∀ x ∈ cmds, ¬ ¬ cmdOk wide vars x)) = decide (goodP (wide, vars, start, cmds)) := by
              rw [← decide_not]
              refine decide_eq_decide.2 ?_
              rw [not_all_not, Decidable.not_not]
              exact ⟨fun h => ⟨h3, by simp only; omega, h⟩, fun h => h.2.2⟩
            rw [e]
      · simp only [go_sem, h3]
        exact bad h3
    · simp only [go_sem, h2]
      exact bad fun h => h2 (kind_conds (show kindT wide vars start ≠ 0 by omega)).2.1
  · simp only [go_sem, h1]
    exact bad fun h => h1 (kind_conds (show kindT wide vars start ≠ 0 by omega)).1
theorem c_goodPS {p : PProg} (hw : wfP p) (hsm : smProgram p) {H : Heap} {K : AV → Heap → Prop} (hK : K (.bool (decide (goodP p))) H) : ACall Try.prog 27 [eP p] H K := by
  obtain ⟨wide, vars, start, cmds⟩ := p
  refine pureC rfl rfl ?_ hK
  refine call27 (by simp) ?_
  simp only [Try.results27, Try.ntmps27, Try.f27, Option.getD_some, pl27]
  simp only [go_sem]
  have hl := hsm.2.1
  simp only at hl
  refine c_condS (p := (wide, vars, start, cmds)) hw.1 (smN hsm.1) ?_
  by_cases h3 : kindT wide vars start = 2
  · simp only [go_sem, h3]
    refine c_in ?_
    by_cases h4 : 1 ≤ (cmds.length : Int) ∧ (cmds.length : Int) ≤ 6
    · simp only [go_sem, h4]
      refine ALoop.intro (pl := pl27) (fun k env H => ∃ (i v1 : Nat), env 1 = .ptr 1 v1 0 ∧ env 18 = eCos cmds ∧ env 19 = I64 cmds.length ∧ env 20 = I64 i ∧ H 1 = .cells v1 32 1 [I64 wide, I64 vars, eNs start, eCos cmds] ∧ i + k = cmds.length ∧ ∀ x ∈ cmds.take i, cmdOk wide vars x) cmds.length (by kernel_rfl) ?_ ?_
      · simp only [go_sem]
        exact ⟨0, _, rfl, rfl, rfl, by omega, by simp⟩
      · rintro k env H ⟨i, v1, e1, e18, e19, e20, b1, hk, ht⟩
        by_cases hz : (i : Int) < cmds.length
        · obtain ⟨x, hx⟩ := get_some (l := cmds) (i := i) (by omega)
          have h0 : (0 : Int) ≤ i := by omega
          have hwi : IntKind.wrap .i64 ((i : Int) + 1) = i + 1 := i64_in _ (by omega)
          have hxm := List.mem_of_getElem? hx
          simp only [go_sem, pl27, e1, e18, e19, e20, b1, hz, hx, h0]
          refine c_cmdS (p := (wide, vars, start, cmds)) (c := x) (hw.2 x hxm) (hsm.2.2 x hxm) ?_
          by_cases hp : cmdOk wide vars x
          · simp only [go_sem, pl27, e1, e18, e19, e20, b1, hz, hwi, hp]
            refine ⟨k - 1, by omega, i + 1, v1, rfl, rfl, rfl, by omega, ?_⟩
            intro y hy
            rw [take_one hx] at hy
            rcases List.mem_append.1 hy with hy | hy
            · exact ht y hy
            · rw [List.mem_singleton.1 hy]; exact hp
          · simp only [go_sem, hp]
            exact bF fun e => hp (e.2.2 x hxm)
        · simp only [go_sem, pl27, e1, e18, e19, e20, b1, hz]
          rw [List.take_of_length_le (by omega)] at ht
          exact bT ⟨h3, by simp only; omega, ht⟩
    · simp only [go_sem, h4]
      exact bF fun e => h4 (by have := e.2.1; simp only at this; omega)
  · simp only [go_sem, h3]
    exact bF fun e => h3 e.1
def smallP (p : PProg) : Prop := goodP p ∧ p.1 * p.2.1 ≤ 5
instance (p : PProg) : Decidable (smallP p) := by unfold smallP; infer_instance
theorem mul_wrap {a b : Int} (ha : wideOk a) (hb : 1 ≤ b ∧ b ≤ 4) : IntKind.wrap .i64 (a * b) = a * b ∧ 1 ≤ a * b ∧ a * b ≤ 256 := by
  obtain ⟨w, rfl, h1, h2⟩ := wide_nat ha
  obtain ⟨v, rfl⟩ : ∃ v : Nat, b = v := ⟨b.toNat, by omega⟩
  have h3 : w * v ≤ 64 * 4 := Nat.mul_le_mul h2 (by omega)
  have h4 : 1 * 1 ≤ w * v := Nat.mul_le_mul h1 (by omega)
  have e : ((w : Int) * (v : Int)) = ((w * v : Nat) : Int) := (Int.natCast_mul _ _).symm
  rw [e]
  exact ⟨i64_in _ (by omega), by omega, by omega⟩
theorem small_nat {p : PProg} (h : smallP p) : ∃ w v : Nat, p.1 = w ∧ p.2.1 = v ∧ 1 ≤ w ∧ 1 ≤ v ∧ v ≤ 4 ∧ w ≤ 5 ∧ w * v ≤ 5 := by
  have hc := good_conds h.1
  obtain ⟨w, hw, h1, h2⟩ := wide_nat hc.1
  refine ⟨w, p.2.1.toNat, hw, by omega, h1, by omega, by omega, ?_, ?_⟩
  · have h5 := h.2
    rw [hw] at h5
    have hv : p.2.1 = (p.2.1.toNat : Int) := by omega
    rw [hv] at h5
    have h6 : w * p.2.1.toNat ≤ 5 := by
      have : ((w * p.2.1.toNat : Nat) : Int) ≤ 5 := by rw [Int.natCast_mul]; exact h5
      omega
    have h7 : w * 1 ≤ w * p.2.1.toNat := Nat.mul_le_mul_left _ (by omega)
    omega
  · have h5 := h.2
    rw [hw] at h5
    have hv : p.2.1 = (p.2.1.toNat : Int) := by omega
    rw [hv] at h5
    have : ((w * p.2.1.toNat : Nat) : Int) ≤ 5 := by rw [Int.natCast_mul]; exact h5
    omega
/-- How many states. -/
def manyP (p : PProg) : Int := 2 ^ (p.1 * p.2.1).toNat
theorem manyP_le {p : PProg} (h : smallP p) : 2 ≤ manyP p ∧ manyP p ≤ 32 := by
  obtain ⟨w, v, e1, e2, h1, h2, h3, h4, h5⟩ := small_nat h
  unfold manyP
  rw [e1, e2, ← Int.natCast_mul, Int.toNat_natCast, pow_cast]
  have h6 : 1 * 1 ≤ w * v := Nat.mul_le_mul h1 h2
  have h7 : 2 ^ 1 ≤ 2 ^ (w * v) := Nat.pow_le_pow_right (by omega) (by omega)
  have h8 : 2 ^ (w * v) ≤ 2 ^ 5 := Nat.pow_le_pow_right (by omega) h5
  omega
def noOk (p : PProg) (no : Int) : Prop := smallP p ∧ 0 ≤ no ∧ no < manyP p
instance (p : PProg) (no : Int) : Decidable (noOk p no) := by unfold noOk; infer_instance
end Go.Proofs.Yteegphdelekdaaa

set_option linter.unusedVariables false
set_option linter.unusedSimpArgs false
namespace Go.Proofs.Yteegphdelekdaaa
open Go.Abs Go.IntWalk
set_option maxRecDepth 100000
attribute [local go_sem] eI eU eNs eN cN eChs eCh cCh eCos eCo cCo eP take_map
/-- The state with a number. -/
def stOf (w v no : Nat) : List Nat := (List.range v).map fun i => (no / 2 ^ (w * i)) % 2 ^ w
theorem stOf_len (w v no : Nat) : (stOf w v no).length = v := by simp [stOf]
theorem stOf_lt {w v no : Nat} : ∀ x ∈ stOf w v no, x < 2 ^ w := fun x hx => by
  obtain ⟨i, _, rfl⟩ := List.mem_map.1 hx
  exact Nat.mod_lt _ (Nat.pow_pos (by omega))
theorem stOf_take {w v no i : Nat} (h : i < v) : stOf w (i + 1) no = stOf w i no ++ [(no / 2 ^ (w * i)) % 2 ^ w] := by
  simp [stOf, List.range_succ]
theorem bv_i64 (n : Nat) (h : n < 9223372036854775808) : (BitVec.ofInt IntKind.i64.bits (n : Int)).toNat = n := by
  rw [BitVec.ofInt_natCast, BitVec.toNat_ofNat]
  exact Nat.mod_eq_of_lt (by show n < 18446744073709551616; omega)
theorem and_i {a b : Nat} (ha : a < 9223372036854775808) (hb : b < 9223372036854775808) : abits .and .i64 (a : Int) (b : Int) = ((a &&& b : Nat) : Int) := by
  simp only [abits]
  rw [BitVec.toNat_and, bv_i64 a ha, bv_i64 b hb]
  exact i64_nat _ (Nat.le_trans Nat.and_le_left (by omega))
theorem resU {L : Nat → Bool} {H : Heap} {id ver T n : Nat} {l : List Nat} (hn : n = l.length) (hL : L id = false) (h : H id = .cells ver T 1 (l.map U64)) : Res L anyAV H (.ref id ver 0 n) (eU l) := Res.map1 (f := U64) (fun _ => rfl) (fun _ => rfl) hn hL h
theorem mul_le5 {w v i : Nat} (h : w * v ≤ 5) (hi : i < v) : w * i ≤ 5 := Nat.le_trans (Nat.mul_le_mul_left w (by omega)) h
def holdsInOf (p : PProg) (t : List PNode) (no : Int) : Bool × Bool := if noOk p no ∧ kindT p.1 p.2.1 t = 2 then (decide (evalT p.1.toNat t (stOf p.1.toNat p.2.1.toNat no.toNat) = 1), true) else (false, false)
end Go.Proofs.Yteegphdelekdaaa

set_option linter.unusedVariables false
set_option linter.unusedSimpArgs false
namespace Go.Proofs.Yteegphdelekdaaa
open Go.Abs Go.IntWalk
set_option maxRecDepth 100000
attribute [local go_sem] eI eU eNs eN cN eChs eCh cCh eCos eCo cCo eP take_map
end Go.Proofs.Yteegphdelekdaaa

set_option linter.unusedVariables false
set_option linter.unusedSimpArgs false
namespace Go.Proofs.Yteegphdelekdaaa
open Go.Abs Go.IntWalk
set_option maxRecDepth 100000
attribute [local go_sem] eI eU eNs eN cN eChs eCh cCh eCos eCo cCo eP take_map
/-! Lists of words. -/
def wfU (l : List Nat) : Prop := ∀ x ∈ l, x < 18446744073709551616
theorem flat1 (f : Nat → AV) (hf : ∀ n, flat (f n) = [f n]) : ∀ t : List Nat, (t.map f).flatMap flat = t.map f
  | [] => rfl
  | a :: t => by rw [List.map_cons, List.flatMap_cons, flat1 f hf t, hf]; rfl
theorem res1 {L : Nat → Bool} {H : Heap} {id ver T n : Nat} {t : List Nat} (hn : n = t.length) (hL : L id = false) (h : H id = .cells ver T 1 (t.map U64)) : Res L anyAV H (.ref id ver 0 n) (eU t) := by
  subst hn
  have := Res.slice (L := L) (H := H) (id := id) (ver := ver) (T := T) (sz := 1) (cs := t.map U64) (es := t.map U64) hL h (flat1 _ (fun _ => rfl) t).symm
    (fun e he => by obtain ⟨x, _, rfl⟩ := List.mem_map.1 he; rfl) (fun e he y hy => by obtain ⟨x, _, rfl⟩ := List.mem_map.1 he; simp [flat] at hy; subst hy; rfl)
  rw [List.length_map] at this
  exact this
def okS (wide vars : Int) (s : List Nat) : Prop := (s.length : Int) = vars ∧ ∀ x ∈ s, gw wide x
instance (wide vars : Int) (s : List Nat) : Decidable (okS wide vars s) := by unfold okS; infer_instance
def isSt (wide vars : Int) (s : List Nat) : Prop := wideOk wide ∧ (1 ≤ vars ∧ vars ≤ 4) ∧ okS wide vars s
instance (wide vars : Int) (s : List Nat) : Decidable (isSt wide vars s) := by unfold isSt; infer_instance
/-- A state of a good program. -/
def stateOk (p : PProg) (s : List Nat) : Prop := goodP p ∧ okS p.1 p.2.1 s
instance (p : PProg) (s : List Nat) : Decidable (stateOk p s) := by unfold stateOk; infer_instance
theorem state_conds {p : PProg} {s : List Nat} (h : stateOk p s) : ∃ w v : Nat, p.1 = w ∧ p.2.1 = v ∧ 1 ≤ w ∧ w ≤ 64 ∧ 1 ≤ v ∧ v ≤ 4 ∧ s.length = v ∧ ∀ x ∈ s, x < 2 ^ w := by
  have h1 := good_conds h.1
  obtain ⟨w, hw, h2, h3⟩ := wide_nat h1.1
  refine ⟨w, p.2.1.toNat, hw, by omega, h2, h3, by omega, by omega, by have := h.2.1; omega, fun x hx => ?_⟩
  have := (h.2.2 x hx).2
  rwa [hw, Int.toNat_natCast] at this
def startOf (p : PProg) (s : List Nat) : Bool × Bool := if stateOk p s then (decide (evalT p.1.toNat p.2.2.1 s = 1), true) else (false, false)
end Go.Proofs.Yteegphdelekdaaa
