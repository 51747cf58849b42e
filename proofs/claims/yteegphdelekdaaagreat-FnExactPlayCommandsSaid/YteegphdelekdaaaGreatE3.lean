/- Texts of ours, joined: YteegphdelekdaaaGreatH13 YteegphdelekdaaaGreatH14 YteegphdelekdaaaGreatH15 YteegphdelekdaaaGreatH16 YteegphdelekdaaaGreatH17 YteegphdelekdaaaGreatH18. -/
import Derived.Test.YteegphdelekdaaaGreatE2
set_option linter.unusedVariables false
set_option linter.unusedSimpArgs false
namespace Go.Proofs.YteegphdelekdaaaGreat
open Go.Abs Go.IntWalk
set_option maxRecDepth 100000
attribute [local go_sem] eI eU eNs eN cN eChs eCh cCh eCos eCo cCo eP take_map
/-! What a good program is. -/
def chsOk (wide vars : Int) : Int → List PChange → Prop
  | _, [] => True
  | prev, x :: xs => (0 ≤ x.1 ∧ x.1 < vars) ∧ prev < x.1 ∧ kindT wide vars x.2 = 1 ∧ chsOk wide vars x.1 xs
instance decChs (wide vars : Int) : (prev : Int) → (l : List PChange) → Decidable (chsOk wide vars prev l)
  | _, [] => .isTrue trivial
  | prev, x :: xs => have := decChs wide vars x.1 xs; by unfold chsOk; infer_instance
def cmdOk (wide vars : Int) (c : PCommand) : Prop := kindT wide vars c.1 = 2 ∧ chsOk wide vars (-1) c.2
instance (wide vars : Int) (c : PCommand) : Decidable (cmdOk wide vars c) := by unfold cmdOk; infer_instance
def goodP (p : PProg) : Prop := kindT p.1 p.2.1 p.2.2.1 = 2 ∧ (1 ≤ p.2.2.2.length ∧ p.2.2.2.length ≤ 6) ∧ ∀ c ∈ p.2.2.2, cmdOk p.1 p.2.1 c
instance (p : PProg) : Decidable (goodP p) := by unfold goodP; infer_instance
def wfC (c : PCommand) : Prop := wfT c.1 ∧ ∀ x ∈ c.2, wfT x.2
def wfP (p : PProg) : Prop := wfT p.2.2.1 ∧ ∀ c ∈ p.2.2.2, wfC c
theorem smN {t : List PNode} (h : smNodeS t) : t.length ≤ 1000000000 := by have := h.1; omega
theorem chs_len {wide vars : Int} : ∀ {l : List PChange} {prev : Int}, chsOk wide vars prev l → l ≠ [] → prev + l.length ≤ vars - 1
  | [], prev, _, h => absurd rfl h
  | [x], prev, h, _ => by have h1 := h.1; have h2 := h.2.1; simp; omega
  | x :: y :: l, prev, h, _ => by
    have := chs_len h.2.2.2 (by simp)
    have h2 := h.2.1
    simp only [List.length_cons] at this ⊢
    omega
theorem c_condI {p : PProg} {t : List PNode} (ht : wfT t) (hl : t.length ≤ 1000000000) {H : Heap} {K : AV → Heap → Prop} (hK : K (.bool (decide (kindT p.1 p.2.1 t = 2))) H) : ACall Tryz.prog 83 [eP p, eNs t] H K := by
  refine pureC rfl rfl ?_ hK
  refine call83 (by simp) ?_
  simp only [Tryz.results83, Tryz.ntmps83, Tryz.f83, Option.getD_some, pl83]
  simp only [go_sem]
  refine c_isTerm (wide := p.1) (vars := p.2.1) ht hl (by omega) ?_
  simp only [go_sem]
theorem c_condS {p : PProg} {t : List PNode} (ht : wfT t) (hl : t.length ≤ 1000000000) {H : Heap} {K : AV → Heap → Prop} (hK : K (.bool (decide (kindT p.1 p.2.1 t = 2))) H) : ACall Tryz.prog 77 [eP p, eNs t] H K := by
  refine pureC rfl rfl ?_ hK
  refine call77 (by simp) ?_
  simp only [Tryz.results77, Tryz.ntmps77, Tryz.f77, Option.getD_some, pl77]
  simp only [go_sem]
  refine c_kindS (wide := p.1) (vars := p.2.1) ht hl ?_
  simp only [go_sem]
theorem c_cmdI {p : PProg} {c : PCommand} (hw : wfC c) (hsm : smCommand c) {H : Heap} {K : AV → Heap → Prop} (hK : K (.bool (decide (cmdOk p.1 p.2.1 c))) H) : ACall Tryz.prog 139 [eP p, eCo c] H K := by
  obtain ⟨wide, vars, start, cmds⟩ := p
  obtain ⟨when, chs⟩ := c
  refine pureC rfl rfl ?_ hK
  refine call139 (by simp) ?_
  simp only [Tryz.results139, Tryz.ntmps139, Tryz.f139, Option.getD_some, pl139]
  simp only [go_sem]
  have hl := hsm.2.1
  simp only at hl
  refine c_condI (p := (wide, vars, start, cmds)) hw.1 (smN hsm.1) ?_
  by_cases h1 : kindT wide vars when = 2
  · have hcs := kind_conds (show kindT wide vars when ≠ 0 by omega)
    simp only [go_sem, h1]
    refine ALoop.intro (pl := pl139) (fun k env H => ∃ (i v2 v3 : Nat) (prev : Int), env 2 = .ptr 2 v2 0 ∧ env 3 = .ptr 3 v3 0 ∧ env 13 = eChs chs ∧ env 14 = I64 chs.length ∧ env 15 = I64 i ∧ H 2 = .cells v2 36 1 [I64 wide, I64 vars, eNs start, eCos cmds] ∧ H 3 = .cells v3 110 1 [eNs when, eChs chs] ∧
      i + k = chs.length ∧ (i = 0 → prev = -1) ∧ (0 < i → ∃ y, chs[i - 1]? = some y ∧ y.1 = prev) ∧ (chsOk wide vars prev (chs.drop i) ↔ chsOk wide vars (-1) chs)) chs.length (by kernel_rfl) ?_ ?_
    · simp only [go_sem]
      exact ⟨0, _, _, -1, rfl, rfl, rfl, rfl, rfl, by omega, fun _ => rfl, fun h => absurd h (by omega), by simp⟩
    · rintro k env H ⟨i, v2, v3, prev, e2, e3, el, eL, eN, b2, b3, hk, hp0, hp1, hiff⟩
      by_cases hz : (i : Int) < chs.length
      · obtain ⟨x, hx⟩ := get_some (l := chs) (i := i) (by omega)
        have h0 : (0 : Int) ≤ i := by omega
        have hwi : IntKind.wrap .i64 ((i : Int) + 1) = i + 1 := i64_in _ (by omega)
        have hwv : IntKind.wrap .i64 (vars - 1) = vars - 1 := i64_in _ (by omega)
        have hxm := List.mem_of_getElem? hx
        rw [drop_step hx, chsOk] at hiff
        have nope : ¬ ((0 ≤ x.1 ∧ x.1 < vars) ∧ prev < x.1 ∧ kindT wide vars x.2 = 1 ∧ chsOk wide vars x.1 (chs.drop (i + 1))) → AV.bool false = AV.bool (decide (cmdOk wide vars (when, chs))) := fun h => bF fun e => h (hiff.2 e.2)
        have yes : (0 ≤ x.1 ∧ x.1 < vars) → prev < x.1 → kindT wide vars x.2 = 1 → ∃ k', k' < k ∧ ∃ (i2 v2' v3' : Nat) (prev2 : Int), AV.ptr 2 v2 0 = .ptr 2 v2' 0 ∧ AV.ptr 3 v3 0 = .ptr 3 v3' 0 ∧ AV.int .i64 (i + 1) = I64 i2 ∧ Blk.cells v2 36 1 [I64 wide, I64 vars, eNs start, eCos cmds] = .cells v2' 36 1 [I64 wide, I64 vars, eNs start, eCos cmds] ∧ Blk.cells v3 110 1 [eNs when, eChs chs] = .cells v3' 110 1 [eNs when, eChs chs] ∧
            i2 + k' = chs.length ∧ (i2 = 0 → prev2 = -1) ∧ (0 < i2 → ∃ y, chs[i2 - 1]? = some y ∧ y.1 = prev2) ∧ (chsOk wide vars prev2 (chs.drop i2) ↔ chsOk wide vars (-1) chs) := fun a1 a2 a3 =>
          ⟨k - 1, by omega, i + 1, v2, v3, x.1, rfl, rfl, rfl, rfl, rfl, by omega, fun h => absurd h (by omega), fun _ => ⟨x, by rw [Nat.add_sub_cancel]; exact hx, rfl⟩, by rw [← hiff]; exact ⟨fun h => ⟨a1, a2, a3, h⟩, fun h => h.2.2.2⟩⟩
        by_cases q1 : x.1 < 0
        · simp only [go_sem, pl139, e2, e3, el, eL, eN, b2, b3, hz, hx, h0, hwi, hwv, q1]
          exact nope fun h => by omega
        by_cases q2 : vars ≤ x.1
        · simp only [go_sem, pl139, e2, e3, el, eL, eN, b2, b3, hz, hx, h0, hwi, hwv, q1, q2]
          exact nope fun h => by omega
        by_cases qi : 0 < (i : Int)
        · obtain ⟨y, hy, hyp⟩ := hp1 (by omega)
          have hwp : IntKind.wrap .i64 ((i : Int) - 1) = ((i - 1 : Nat) : Int) := (i64_in _ (by omega)).trans (by omega)
          have hp00 : (0 : Int) ≤ ((i - 1 : Nat) : Int) := by omega
          by_cases q3 : x.1 ≤ y.1
          · simp only [go_sem, pl139, e2, e3, el, eL, eN, b2, b3, hz, hx, h0, hwi, hwv, q1, q2, qi, hwp, hp00, hy, q3]
            exact nope fun h => by omega
          · simp only [go_sem, pl139, e2, e3, el, eL, eN, b2, b3, hz, hx, h0, hwi, hwv, q1, q2, qi, hwp, hp00, hy, q3]
            refine c_isTerm (wide := wide) (vars := vars) (kind := 1) (t := x.2) (hw.2 x hxm) (smN (hsm.2.2 x hxm)) (by omega) ?_
            by_cases q4 : kindT wide vars x.2 = 1
            · simp only [go_sem, pl139, e2, e3, el, eL, eN, b2, b3, hz, hx, h0, hwi, hwv, q4]
              exact yes (by omega) (by omega) q4
            · simp only [go_sem, pl139, e2, e3, el, eL, eN, b2, b3, hz, hx, h0, hwi, hwv, q4]
              exact nope fun h => q4 h.2.2.1
        · have i0 : i = 0 := by omega
          have hpm := hp0 i0
          simp only [go_sem, pl139, e2, e3, el, eL, eN, b2, b3, hz, hx, h0, hwi, hwv, q1, q2, qi]
          refine c_isTerm (wide := wide) (vars := vars) (kind := 1) (t := x.2) (hw.2 x hxm) (smN (hsm.2.2 x hxm)) (by omega) ?_
          by_cases q4 : kindT wide vars x.2 = 1
          · simp only [go_sem, pl139, e2, e3, el, eL, eN, b2, b3, hz, hx, h0, hwi, hwv, q4]
            exact yes (by omega) (by omega) q4
          · simp only [go_sem, pl139, e2, e3, el, eL, eN, b2, b3, hz, hx, h0, hwi, hwv, q4]
            exact nope fun h => q4 h.2.2.1
      · simp only [go_sem, pl139, e2, e3, el, eL, eN, b2, b3, hz]
        rw [List.drop_of_length_le (by omega)] at hiff
        exact bT ⟨h1, hiff.1 trivial⟩
  · simp only [go_sem, h1]
    exact bF fun e => h1 e.1
theorem c_cmdS {p : PProg} {c : PCommand} (hw : wfC c) (hsm : smCommand c) {H : Heap} {K : AV → Heap → Prop} (hK : K (.bool (decide (cmdOk p.1 p.2.1 c))) H) : ACall Tryz.prog 104 [eP p, eCo c] H K := by
  obtain ⟨wide, vars, start, cmds⟩ := p
  obtain ⟨when, chs⟩ := c
  refine pureC rfl rfl ?_ hK
  refine call104 (by simp) ?_
  simp only [Tryz.results104, Tryz.ntmps104, Tryz.f104, Option.getD_some, pl104]
  simp only [go_sem]
  have hl := hsm.2.1
  simp only at hl
  refine c_condS (p := (wide, vars, start, cmds)) hw.1 (smN hsm.1) ?_
  by_cases h1 : kindT wide vars when = 2
  · have hcs := kind_conds (show kindT wide vars when ≠ 0 by omega)
    by_cases h2 : vars < (chs.length : Int)
    · simp only [go_sem, h1, h2]
      refine bF fun e => ?_
      by_cases he : chs = []
      · subst he; simp at h2; omega
      · have := chs_len e.2 he; simp only at this; omega
    simp only [go_sem, h1, h2]
    refine ALoop.intro (pl := pl104) (fun k env H => ∃ (i v2 v3 : Nat) (prev : Int), env 2 = .ptr 2 v2 0 ∧ env 3 = .ptr 3 v3 0 ∧ env 21 = eChs chs ∧ env 22 = I64 chs.length ∧ env 23 = I64 i ∧ H 2 = .cells v2 36 1 [I64 wide, I64 vars, eNs start, eCos cmds] ∧ H 3 = .cells v3 110 1 [eNs when, eChs chs] ∧
      i + k = chs.length ∧ (i = 0 → prev = -1) ∧ (0 < i → ∃ y, chs[i - 1]? = some y ∧ y.1 = prev) ∧ (chsOk wide vars prev (chs.drop i) ↔ chsOk wide vars (-1) chs)) chs.length (by kernel_rfl) ?_ ?_
    · simp only [go_sem]
      exact ⟨0, _, _, -1, rfl, rfl, rfl, rfl, rfl, by omega, fun _ => rfl, fun h => absurd h (by omega), by simp⟩
    · rintro k env H ⟨i, v2, v3, prev, e2, e3, el, eL, eN, b2, b3, hk, hp0, hp1, hiff⟩
      by_cases hz : (i : Int) < chs.length
      · obtain ⟨x, hx⟩ := get_some (l := chs) (i := i) (by omega)
        have h0 : (0 : Int) ≤ i := by omega
        have hwi : IntKind.wrap .i64 ((i : Int) + 1) = i + 1 := i64_in _ (by omega)
        have hwv : IntKind.wrap .i64 (vars - 1) = vars - 1 := i64_in _ (by omega)
        have hxm := List.mem_of_getElem? hx
        rw [drop_step hx, chsOk] at hiff
        have nope : ¬ ((0 ≤ x.1 ∧ x.1 < vars) ∧ prev < x.1 ∧ kindT wide vars x.2 = 1 ∧ chsOk wide vars x.1 (chs.drop (i + 1))) → AV.bool false = AV.bool (decide (cmdOk wide vars (when, chs))) := fun h => bF fun e => h (hiff.2 e.2)
        have yes : (0 ≤ x.1 ∧ x.1 < vars) → prev < x.1 → kindT wide vars x.2 = 1 → ∃ k', k' < k ∧ ∃ (i2 v2' v3' : Nat) (prev2 : Int), AV.ptr 2 v2 0 = .ptr 2 v2' 0 ∧ AV.ptr 3 v3 0 = .ptr 3 v3' 0 ∧ AV.int .i64 (i + 1) = I64 i2 ∧ Blk.cells v2 36 1 [I64 wide, I64 vars, eNs start, eCos cmds] = .cells v2' 36 1 [I64 wide, I64 vars, eNs start, eCos cmds] ∧ Blk.cells v3 110 1 [eNs when, eChs chs] = .cells v3' 110 1 [eNs when, eChs chs] ∧
            i2 + k' = chs.length ∧ (i2 = 0 → prev2 = -1) ∧ (0 < i2 → ∃ y, chs[i2 - 1]? = some y ∧ y.1 = prev2) ∧ (chsOk wide vars prev2 (chs.drop i2) ↔ chsOk wide vars (-1) chs) := fun a1 a2 a3 =>
          ⟨k - 1, by omega, i + 1, v2, v3, x.1, rfl, rfl, rfl, rfl, rfl, by omega, fun h => absurd h (by omega), fun _ => ⟨x, by rw [Nat.add_sub_cancel]; exact hx, rfl⟩, by rw [← hiff]; exact ⟨fun h => ⟨a1, a2, a3, h⟩, fun h => h.2.2.2⟩⟩
        simp only [go_sem, pl104, e2, e3, el, eL, eN, b2, b3, hz, hx, h0, hwi, hwv]
        refine c_in ?_
        by_cases q1 : 0 ≤ x.1 ∧ x.1 ≤ vars - 1
        · by_cases qi : 0 < (i : Int)
          · obtain ⟨y, hy, hyp⟩ := hp1 (by omega)
            have hwp : IntKind.wrap .i64 ((i : Int) - 1) = ((i - 1 : Nat) : Int) := (i64_in _ (by omega)).trans (by omega)
            have hp00 : (0 : Int) ≤ ((i - 1 : Nat) : Int) := by omega
            by_cases q3 : x.1 ≤ y.1
            · simp only [go_sem, pl104, e2, e3, el, eL, eN, b2, b3, hz, hx, h0, hwi, hwv, q1, qi, hwp, hp00, hy, q3]
              exact nope fun h => by omega
            · simp only [go_sem, pl104, e2, e3, el, eL, eN, b2, b3, hz, hx, h0, hwi, hwv, q1, qi, hwp, hp00, hy, q3]
              refine c_kindS (wide := wide) (vars := vars) (t := x.2) (hw.2 x hxm) (smN (hsm.2.2 x hxm)) ?_
              by_cases q4 : kindT wide vars x.2 = 1
              · simp only [go_sem, pl104, e2, e3, el, eL, eN, b2, b3, hz, hx, h0, hwi, hwv, q4]
                exact yes (by omega) (by omega) q4
              · simp only [go_sem, pl104, e2, e3, el, eL, eN, b2, b3, hz, hx, h0, hwi, hwv, q4]
                exact nope fun h => q4 h.2.2.1
          · have i0 : i = 0 := by omega
            have hpm := hp0 i0
            simp only [go_sem, pl104, e2, e3, el, eL, eN, b2, b3, hz, hx, h0, hwi, hwv, q1, qi]
            refine c_kindS (wide := wide) (vars := vars) (t := x.2) (hw.2 x hxm) (smN (hsm.2.2 x hxm)) ?_
            by_cases q4 : kindT wide vars x.2 = 1
            · simp only [go_sem, pl104, e2, e3, el, eL, eN, b2, b3, hz, hx, h0, hwi, hwv, q4]
              exact yes (by omega) (by omega) q4
            · simp only [go_sem, pl104, e2, e3, el, eL, eN, b2, b3, hz, hx, h0, hwi, hwv, q4]
              exact nope fun h => q4 h.2.2.1
        · simp only [go_sem, pl104, e2, e3, el, eL, eN, b2, b3, hz, hx, h0, hwi, hwv, q1]
          exact nope fun h => q1 (by omega)
      · simp only [go_sem, pl104, e2, e3, el, eL, eN, b2, b3, hz]
        rw [List.drop_of_length_le (by omega)] at hiff
        exact bT ⟨h1, hiff.1 trivial⟩
  · simp only [go_sem, h1]
    exact bF fun e => h1 e.1
end Go.Proofs.YteegphdelekdaaaGreat

set_option linter.unusedVariables false
set_option linter.unusedSimpArgs false
namespace Go.Proofs.YteegphdelekdaaaGreat
open Go.Abs Go.IntWalk
set_option maxRecDepth 100000
attribute [local go_sem] eI eU eNs eN cN eChs eCh cCh eCos eCo cCo eP take_map
theorem c_idxCo {wide vars : Int} {start : List PNode} {cmds : List PCommand} {l : List PCommand} {id v : Nat} {H : Heap} {K : AV → Heap → Prop} (hl : l.length ≤ 1000000000) (hH : H id = .cells v 36 1 [I64 wide, I64 vars, eNs start, eCos cmds])
    (hcl : ∀ x ∈ l, ∀ (H : Heap) (K : AV → Heap → Prop), H 1000000 = .cells v 36 1 [I64 wide, I64 vars, eNs start, eCos cmds] → K (.bool (decide (¬ cmdOk wide vars x))) H → ACall Tryz.prog 138 [eCo x, .ptr 1000000 v 0] H K) (hK : ∀ r, (0 ≤ r ↔ ¬ ∀ x ∈ l, ¬ (¬ cmdOk wide vars x)) → K (I64 r) H) : ACall Tryz.prog 130 [eCos l, .fn 138 [.ptr id v 0]] H K := by
  refine ACall.with1 (xs := [eCos l]) (R := fun r H' => H' 1000000 = .cells v 36 1 [I64 wide, I64 vars, eNs start, eCos cmds] ∧ ∃ q, r = I64 q ∧ (0 ≤ q ↔ ¬ ∀ x ∈ l, ¬ (¬ cmdOk wide vars x))) (.fn 138 [.ptr 1000000 v 0]) rfl hH rfl rfl ?_ ?_
  · refine call130 (by simp) ?_
    simp only [Tryz.results130, Tryz.ntmps130, Tryz.f130, Option.getD_some, pl130]
    simp only [go_sem]
    refine ALoop.intro (pl := pl130) (fun k env H => ∃ i : Nat, env 0 = eCos l ∧ env 1 = .fn 138 [.ptr 1000000 v 0] ∧ env 7 = I64 l.length ∧ env 8 = I64 i ∧ H 1000000 = .cells v 36 1 [I64 wide, I64 vars, eNs start, eCos cmds] ∧ i + k = l.length ∧ ∀ x ∈ l.take i, ¬ (¬ cmdOk wide vars x)) l.length (by kernel_rfl) ?_ ?_
    · simp only [go_sem]
      exact ⟨0, by simp⟩
    · rintro k env H ⟨i, e0, e1, e2, e3, b1, hk, ht⟩
      by_cases hz : (i : Int) < l.length
      · obtain ⟨x, hx⟩ := get_some (l := l) (i := i) (by omega)
        have hw : IntKind.wrap .i64 ((i : Int) + 1) = i + 1 := i64_in _ (by omega)
        have h0 : (0 : Int) ≤ i := by omega
        simp only [go_sem, e0, e1, e2, e3, hz, hx, h0]
        refine hcl x (List.mem_of_getElem? hx) _ _ b1 ?_
        by_cases hp : ¬ cmdOk wide vars x
        · simp only [go_sem, hp]
          exact ⟨b1, _, rfl, by simp only [h0, true_iff]; exact fun h => h x (List.mem_of_getElem? hx) hp⟩
        · simp only [go_sem, e0, e1, e2, e3, hp, hw]
          refine ⟨k - 1, by omega, i + 1, rfl, b1, by omega, ?_⟩
          intro y hy
          rw [take_one hx] at hy
          rcases List.mem_append.1 hy with hy | hy
          · exact ht y hy
          · rw [List.mem_singleton.1 hy]; exact hp
      · simp only [go_sem, e2, e3, hz]
        rw [List.take_of_length_le (by omega)] at ht
        exact ⟨b1, _, rfl, ⟨fun h => absurd h (by omega), fun h => absurd ht h⟩⟩
  · rintro r H' ⟨h, q, rfl, hq⟩
    exact ⟨h, _, .cl rfl, rfl, hK q hq⟩
theorem c_contCo {wide vars : Int} {start : List PNode} {cmds : List PCommand} {l : List PCommand} {id v : Nat} {H : Heap} {K : AV → Heap → Prop} (hl : l.length ≤ 1000000000) (hH : H id = .cells v 36 1 [I64 wide, I64 vars, eNs start, eCos cmds])
    (hcl : ∀ x ∈ l, ∀ (H : Heap) (K : AV → Heap → Prop), H 1000000 = .cells v 36 1 [I64 wide, I64 vars, eNs start, eCos cmds] → K (.bool (decide (¬ cmdOk wide vars x))) H → ACall Tryz.prog 138 [eCo x, .ptr 1000000 v 0] H K) (hK : K (.bool (decide (¬ ∀ x ∈ l, ¬ (¬ cmdOk wide vars x)))) H) : ACall Tryz.prog 93 [eCos l, .fn 138 [.ptr id v 0]] H K := by
  refine ACall.with1 (xs := [eCos l]) (R := fun r H' => H' 1000000 = .cells v 36 1 [I64 wide, I64 vars, eNs start, eCos cmds] ∧ r = .bool (decide (¬ ∀ x ∈ l, ¬ (¬ cmdOk wide vars x)))) (.fn 138 [.ptr 1000000 v 0]) rfl hH rfl rfl ?_ ?_
  · refine call93 (by simp) ?_
    simp only [Tryz.results93, Tryz.ntmps93, Tryz.f93, Option.getD_some, pl93]
    simp only [go_sem]
    refine c_idxCo (l := l) hl (HOne_at) hcl fun r hr => ?_
    simp only [go_sem, HOne_at]
    exact bE hr
  · rintro r H' ⟨h, rfl⟩
    exact ⟨h, _, .cl rfl, rfl, hK⟩
theorem c_idxUw {wide : Int} {l : List Nat} {id v : Nat} {H : Heap} {K : AV → Heap → Prop} (hl : l.length ≤ 1000000000) (hH : H id = .cells v 3 1 [I64 wide])
    (hcl : ∀ x ∈ l, ∀ (H : Heap) (K : AV → Heap → Prop), H 1000000 = .cells v 3 1 [I64 wide] → K (.bool (decide (¬ gw wide x))) H → ACall Tryz.prog 141 [U64 x, .ptr 1000000 v 0] H K) (hK : ∀ r, (0 ≤ r ↔ ¬ ∀ x ∈ l, ¬ (¬ gw wide x)) → K (I64 r) H) : ACall Tryz.prog 158 [eU l, .fn 141 [.ptr id v 0]] H K := by
  refine ACall.with1 (xs := [eU l]) (R := fun r H' => H' 1000000 = .cells v 3 1 [I64 wide] ∧ ∃ q, r = I64 q ∧ (0 ≤ q ↔ ¬ ∀ x ∈ l, ¬ (¬ gw wide x))) (.fn 141 [.ptr 1000000 v 0]) rfl hH rfl rfl ?_ ?_
  · refine call158 (by simp) ?_
    simp only [Tryz.results158, Tryz.ntmps158, Tryz.f158, Option.getD_some, pl158]
    simp only [go_sem]
    refine ALoop.intro (pl := pl158) (fun k env H => ∃ i : Nat, env 0 = eU l ∧ env 1 = .fn 141 [.ptr 1000000 v 0] ∧ env 7 = I64 l.length ∧ env 8 = I64 i ∧ H 1000000 = .cells v 3 1 [I64 wide] ∧ i + k = l.length ∧ ∀ x ∈ l.take i, ¬ (¬ gw wide x)) l.length (by kernel_rfl) ?_ ?_
    · simp only [go_sem]
      exact ⟨0, by simp⟩
    · rintro k env H ⟨i, e0, e1, e2, e3, b1, hk, ht⟩
      by_cases hz : (i : Int) < l.length
      · obtain ⟨x, hx⟩ := get_some (l := l) (i := i) (by omega)
        have hw : IntKind.wrap .i64 ((i : Int) + 1) = i + 1 := i64_in _ (by omega)
        have h0 : (0 : Int) ≤ i := by omega
        simp only [go_sem, e0, e1, e2, e3, hz, hx, h0]
        refine hcl x (List.mem_of_getElem? hx) _ _ b1 ?_
        by_cases hp : ¬ gw wide x
        · simp only [go_sem, hp]
          exact ⟨b1, _, rfl, by simp only [h0, true_iff]; exact fun h => h x (List.mem_of_getElem? hx) hp⟩
        · simp only [go_sem, e0, e1, e2, e3, hp, hw]
          refine ⟨k - 1, by omega, i + 1, rfl, b1, by omega, ?_⟩
          intro y hy
          rw [take_one hx] at hy
          rcases List.mem_append.1 hy with hy | hy
          · exact ht y hy
          · rw [List.mem_singleton.1 hy]; exact hp
      · simp only [go_sem, e2, e3, hz]
        rw [List.take_of_length_le (by omega)] at ht
        exact ⟨b1, _, rfl, ⟨fun h => absurd h (by omega), fun h => absurd ht h⟩⟩
  · rintro r H' ⟨h, q, rfl, hq⟩
    exact ⟨h, _, .cl rfl, rfl, hK q hq⟩
theorem c_contUw {wide : Int} {l : List Nat} {id v : Nat} {H : Heap} {K : AV → Heap → Prop} (hl : l.length ≤ 1000000000) (hH : H id = .cells v 3 1 [I64 wide])
    (hcl : ∀ x ∈ l, ∀ (H : Heap) (K : AV → Heap → Prop), H 1000000 = .cells v 3 1 [I64 wide] → K (.bool (decide (¬ gw wide x))) H → ACall Tryz.prog 141 [U64 x, .ptr 1000000 v 0] H K) (hK : K (.bool (decide (¬ ∀ x ∈ l, ¬ (¬ gw wide x)))) H) : ACall Tryz.prog 140 [eU l, .fn 141 [.ptr id v 0]] H K := by
  refine ACall.with1 (xs := [eU l]) (R := fun r H' => H' 1000000 = .cells v 3 1 [I64 wide] ∧ r = .bool (decide (¬ ∀ x ∈ l, ¬ (¬ gw wide x)))) (.fn 141 [.ptr 1000000 v 0]) rfl hH rfl rfl ?_ ?_
  · refine call140 (by simp) ?_
    simp only [Tryz.results140, Tryz.ntmps140, Tryz.f140, Option.getD_some, pl140]
    simp only [go_sem]
    refine c_idxUw (l := l) hl (HOne_at) hcl fun r hr => ?_
    simp only [go_sem, HOne_at]
    exact bE hr
  · rintro r H' ⟨h, rfl⟩
    exact ⟨h, _, .cl rfl, rfl, hK⟩
end Go.Proofs.YteegphdelekdaaaGreat

set_option linter.unusedVariables false
set_option linter.unusedSimpArgs false
namespace Go.Proofs.YteegphdelekdaaaGreat
open Go.Abs Go.IntWalk
set_option maxRecDepth 100000
attribute [local go_sem] eI eU eNs eN cN eChs eCh cCh eCos eCo cCo eP take_map
theorem good_conds {p : PProg} (h : goodP p) : wideOk p.1 ∧ (1 ≤ p.2.1 ∧ p.2.1 ≤ 4) := by
  have := kind_conds (show kindT p.1 p.2.1 p.2.2.1 ≠ 0 by rw [h.1]; omega)
  exact ⟨this.1, this.2.1⟩
theorem not_all_not {α : Type} {l : List α} {P : α → Prop} [DecidablePred P] : (¬ ∀ x ∈ l, ¬ ¬ P x) ↔ ¬ ∀ x ∈ l, P x := by
  constructor
  · exact fun h h2 => h fun x hx hn => hn (h2 x hx)
  · exact fun h h2 => h fun x hx => Decidable.byContradiction (h2 x hx)
/-- The closure of GoodProgram. -/
theorem c_goodCl {wide vars : Int} {start : List PNode} {cmds : List PCommand} {x : PCommand} {v : Nat} (hw : wfC x) (hsm : smCommand x) {H : Heap} {K : AV → Heap → Prop} (hH : H 1000000 = .cells v 36 1 [I64 wide, I64 vars, eNs start, eCos cmds]) (hK : K (.bool (decide (¬ cmdOk wide vars x))) H) :
    ACall Tryz.prog 138 [eCo x, .ptr 1000000 v 0] H K := by
  refine ACall.with1 (xs := [eCo x]) (R := fun r H' => r = .bool (decide (¬ cmdOk wide vars x)) ∧ H' 1000000 = .cells v 36 1 [I64 wide, I64 vars, eNs start, eCos cmds]) (.ptr 1000000 v 0) rfl hH rfl rfl ?_ ?_
  · refine call138 (by simp) ?_
    simp only [Tryz.results138, Tryz.ntmps138, Tryz.f138, Option.getD_some, pl138]
    simp only [go_sem]
    refine c_cmdI (p := (wide, vars, start, cmds)) (c := x) hw hsm ?_
    simp only [go_sem, decide_not]
  · rintro r H' ⟨rfl, h⟩
    exact ⟨h, _, .cl rfl, rfl, hK⟩
theorem c_goodPI {p : PProg} (hw : wfP p) (hsm : smProgram p) {H : Heap} {K : AV → Heap → Prop} (hK : K (.bool (decide (goodP p))) H) : ACall Tryz.prog 109 [eP p] H K := by
  obtain ⟨wide, vars, start, cmds⟩ := p
  refine pureC rfl rfl ?_ hK
  refine call109 (by simp) ?_
  simp only [Tryz.results109, Tryz.ntmps109, Tryz.f109, Option.getD_some, pl109]
  simp only [go_sem]
  have hl := hsm.2.1
  simp only at hl
  have bad : kindT wide vars start ≠ 2 → AV.bool false = AV.bool (decide (goodP (wide, vars, start, cmds))) := fun h => bF fun e => h e.1
  refine c_wideI ?_
  by_cases h1 : wideOk wide
  · simp only [go_sem, h1]
    refine c_varsI ?_
    by_cases h2 : 1 ≤ vars ∧ vars ≤ 4
    · simp only [go_sem, h2]
      refine c_condI (p := (wide, vars, start, cmds)) hw.1 (smN hsm.1) ?_
      by_cases h3 : kindT wide vars start = 2
      · by_cases h4 : (cmds.length : Int) < 1
        · simp only [go_sem, h3, h4]
          exact bF fun e => by have := e.2.1.1; simp only at this; omega
        · by_cases h5 : 6 < (cmds.length : Int)
          · simp only [go_sem, h3, h4, h5]
            exact bF fun e => by have := e.2.1.2; simp only at this; omega
          · simp only [go_sem, h3, h4, h5]
            refine c_contCo (wide := wide) (vars := vars) (start := start) (cmds := cmds) (l := cmds) (id := 1) (by omega) (by simp only [go_sem]) (fun x hx H K hH hK => c_goodCl (hw.2 x hx) (hsm.2.2 x hx) hH hK) ?_
            simp only [go_sem]
            have e : (!decide (¬ ∀ x ∈ cmds, ¬ ¬ cmdOk wide vars x)) = decide (goodP (wide, vars, start, cmds)) := by
              rw [← decide_not]
              refine decide_eq_decide.2 ?_
              rw [not_all_not, Decidable.not_not]
              exact ⟨fun h => ⟨h3, by simp only; omega, h⟩, fun h => h.2.2⟩
            rw [e]
      · simp only [go_sem, h3]
        exact bad h3
    · simp only [go_sem, h2]
      exact bad fun h => h2 (kind_conds (show kindT wide vars start ≠ 0 by omega)).2.1
  · simp only [go_sem, h1]
    exact bad fun h => h1 (kind_conds (show kindT wide vars start ≠ 0 by omega)).1
theorem c_goodPS {p : PProg} (hw : wfP p) (hsm : smProgram p) {H : Heap} {K : AV → Heap → Prop} (hK : K (.bool (decide (goodP p))) H) : ACall Tryz.prog 51 [eP p] H K := by
  obtain ⟨wide, vars, start, cmds⟩ := p
  refine pureC rfl rfl ?_ hK
  refine call51 (by simp) ?_
  simp only [Tryz.results51, Tryz.ntmps51, Tryz.f51, Option.getD_some, pl51]
  simp only [go_sem]
  have hl := hsm.2.1
  simp only at hl
  refine c_condS (p := (wide, vars, start, cmds)) hw.1 (smN hsm.1) ?_
  by_cases h3 : kindT wide vars start = 2
  · simp only [go_sem, h3]
    refine c_in ?_
    by_cases h4 : 1 ≤ (cmds.length : Int) ∧ (cmds.length : Int) ≤ 6
    · simp only [go_sem, h4]
      refine ALoop.intro (pl := pl51) (fun k env H => ∃ (i v1 : Nat), env 1 = .ptr 1 v1 0 ∧ env 18 = eCos cmds ∧ env 19 = I64 cmds.length ∧ env 20 = I64 i ∧ H 1 = .cells v1 36 1 [I64 wide, I64 vars, eNs start, eCos cmds] ∧ i + k = cmds.length ∧ ∀ x ∈ cmds.take i, cmdOk wide vars x) cmds.length (by kernel_rfl) ?_ ?_
      · simp only [go_sem]
        exact ⟨0, _, rfl, rfl, rfl, by omega, by simp⟩
      · rintro k env H ⟨i, v1, e1, e18, e19, e20, b1, hk, ht⟩
        by_cases hz : (i : Int) < cmds.length
        · obtain ⟨x, hx⟩ := get_some (l := cmds) (i := i) (by omega)
          have h0 : (0 : Int) ≤ i := by omega
          have hwi : IntKind.wrap .i64 ((i : Int) + 1) = i + 1 := i64_in _ (by omega)
          have hxm := List.mem_of_getElem? hx
          simp only [go_sem, pl51, e1, e18, e19, e20, b1, hz, hx, h0]
          refine c_cmdS (p := (wide, vars, start, cmds)) (c := x) (hw.2 x hxm) (hsm.2.2 x hxm) ?_
          by_cases hp : cmdOk wide vars x
          · simp only [go_sem, pl51, e1, e18, e19, e20, b1, hz, hwi, hp]
            refine ⟨k - 1, by omega, i + 1, v1, rfl, rfl, rfl, by omega, ?_⟩
            intro y hy
            rw [take_one hx] at hy
            rcases List.mem_append.1 hy with hy | hy
            · exact ht y hy
            · rw [List.mem_singleton.1 hy]; exact hp
          · simp only [go_sem, hp]
            exact bF fun e => hp (e.2.2 x hxm)
        · simp only [go_sem, pl51, e1, e18, e19, e20, b1, hz]
          rw [List.take_of_length_le (by omega)] at ht
          exact bT ⟨h3, by simp only; omega, ht⟩
    · simp only [go_sem, h4]
      exact bF fun e => h4 (by have := e.2.1; simp only at this; omega)
  · simp only [go_sem, h3]
    exact bF fun e => h3 e.1
def smallP (p : PProg) : Prop := goodP p ∧ p.1 * p.2.1 ≤ 5
instance (p : PProg) : Decidable (smallP p) := by unfold smallP; infer_instance
theorem mul_wrap {a b : Int} (ha : wideOk a) (hb : 1 ≤ b ∧ b ≤ 4) : IntKind.wrap .i64 (a * b) = a * b ∧ 1 ≤ a * b ∧ a * b ≤ 256 := by
  obtain ⟨w, rfl, h1, h2⟩ := wide_nat ha
  obtain ⟨v, rfl⟩ : ∃ v : Nat, b = v := ⟨b.toNat, by omega⟩
  have h3 : w * v ≤ 64 * 4 := Nat.mul_le_mul h2 (by omega)
  have h4 : 1 * 1 ≤ w * v := Nat.mul_le_mul h1 (by omega)
  have e : ((w : Int) * (v : Int)) = ((w * v : Nat) : Int) := (Int.natCast_mul _ _).symm
  rw [e]
  exact ⟨i64_in _ (by omega), by omega, by omega⟩
theorem c_smallI {p : PProg} (hw : wfP p) (hsm : smProgram p) {H : Heap} {K : AV → Heap → Prop} (hK : K (.bool (decide (smallP p))) H) : ACall Tryz.prog 82 [eP p] H K := by
  refine pureC rfl rfl ?_ hK
  refine call82 (by simp) ?_
  simp only [Tryz.results82, Tryz.ntmps82, Tryz.f82, Option.getD_some, pl82]
  simp only [go_sem]
  refine c_goodPI (p := p) hw hsm ?_
  by_cases h : goodP p
  · have hm := mul_wrap (good_conds h).1 (good_conds h).2
    have hm1 := hm.1
    simp only [go_sem, h, hm1]
    exact bE ⟨fun e => ⟨h, e⟩, fun e => e.2⟩
  · simp only [go_sem, h]
    exact bF fun e => h e.1
theorem c_smallS {p : PProg} (hw : wfP p) (hsm : smProgram p) {H : Heap} {K : AV → Heap → Prop} (hK : K (.bool (decide (smallP p))) H) : ACall Tryz.prog 66 [eP p] H K := by
  refine pureC rfl rfl ?_ hK
  refine call66 (by simp) ?_
  simp only [Tryz.results66, Tryz.ntmps66, Tryz.f66, Option.getD_some, pl66]
  simp only [go_sem]
  refine c_goodPS (p := p) hw hsm ?_
  by_cases h : goodP p
  · have hm := mul_wrap (good_conds h).1 (good_conds h).2
    have hm1 := hm.1
    simp only [go_sem, h, hm1]
    exact bE ⟨fun e => ⟨h, e⟩, fun e => e.2⟩
  · simp only [go_sem, h]
    exact bF fun e => h e.1
theorem small_nat {p : PProg} (h : smallP p) : ∃ w v : Nat, p.1 = w ∧ p.2.1 = v ∧ 1 ≤ w ∧ 1 ≤ v ∧ v ≤ 4 ∧ w ≤ 5 ∧ w * v ≤ 5 := by
  have hc := good_conds h.1
  obtain ⟨w, hw, h1, h2⟩ := wide_nat hc.1
  refine ⟨w, p.2.1.toNat, hw, by omega, h1, by omega, by omega, ?_, ?_⟩
  · have h5 := h.2
    rw [hw] at h5
    have hv : p.2.1 = (p.2.1.toNat : Int) := by omega
    rw [hv] at h5
    have h6 : w * p.2.1.toNat ≤ 5 := by
      have : ((w * p.2.1.toNat : Nat) : Int) ≤ 5 := by rw [Int.natCast_mul]; exact h5
      omega
    have h7 : w * 1 ≤ w * p.2.1.toNat := Nat.mul_le_mul_left _ (by omega)
    omega
  · have h5 := h.2
    rw [hw] at h5
    have hv : p.2.1 = (p.2.1.toNat : Int) := by omega
    rw [hv] at h5
    have : ((w * p.2.1.toNat : Nat) : Int) ≤ 5 := by rw [Int.natCast_mul]; exact h5
    omega
/-- How many states. -/
def manyP (p : PProg) : Int := 2 ^ (p.1 * p.2.1).toNat
theorem manyP_le {p : PProg} (h : smallP p) : 2 ≤ manyP p ∧ manyP p ≤ 32 := by
  obtain ⟨w, v, e1, e2, h1, h2, h3, h4, h5⟩ := small_nat h
  unfold manyP
  rw [e1, e2, ← Int.natCast_mul, Int.toNat_natCast, pow_cast]
  have h6 : 1 * 1 ≤ w * v := Nat.mul_le_mul h1 h2
  have h7 : 2 ^ 1 ≤ 2 ^ (w * v) := Nat.pow_le_pow_right (by omega) (by omega)
  have h8 : 2 ^ (w * v) ≤ 2 ^ 5 := Nat.pow_le_pow_right (by omega) h5
  omega
theorem c_manyI {p : PProg} (h : smallP p) {H : Heap} {K : AV → Heap → Prop} (hK : K (I64 (manyP p)) H) : ACall Tryz.prog 98 [eP p] H K := by
  refine pureC rfl rfl ?_ hK
  refine call98 (by simp) ?_
  simp only [Tryz.results98, Tryz.ntmps98, Tryz.f98, Option.getD_some, pl98]
  have hm := mul_wrap (good_conds h.1).1 (good_conds h.1).2
  have h5 := h.2
  have hm1 := hm.1
  have h0 : 0 ≤ p.1 * p.2.1 := by omega
  have hu : IntKind.wrap .u64 (p.1 * p.2.1) = p.1 * p.2.1 := u64_in _ (by omega)
  have hml := manyP_le h
  have e : IntKind.wrap .i64 (1 * 2 ^ min (p.1 * p.2.1).toNat 64) = manyP p := by
    rw [Nat.min_eq_left (by omega), Int.one_mul]
    exact i64_in _ (by show _ ≤ manyP p ∧ manyP p ≤ _; omega)
  simp only [go_sem, hm1, hu, h0, e]
theorem c_manyS {p : PProg} (h : smallP p) {H : Heap} {K : AV → Heap → Prop} (hK : K (I64 (manyP p)) H) : ACall Tryz.prog 69 [eP p] H K := by
  refine pureC rfl rfl ?_ hK
  refine call69 (by simp) ?_
  simp only [Tryz.results69, Tryz.ntmps69, Tryz.f69, Option.getD_some, pl69]
  have hm := mul_wrap (good_conds h.1).1 (good_conds h.1).2
  have h5 := h.2
  have hm1 := hm.1
  have h0 : 0 ≤ p.1 * p.2.1 := by omega
  have hu : IntKind.wrap .u64 (p.1 * p.2.1) = p.1 * p.2.1 := u64_in _ (by omega)
  have hml := manyP_le h
  have e : IntKind.wrap .i64 (1 * 2 ^ min (p.1 * p.2.1).toNat 64) = manyP p := by
    rw [Nat.min_eq_left (by omega), Int.one_mul]
    exact i64_in _ (by show _ ≤ manyP p ∧ manyP p ≤ _; omega)
  simp only [go_sem, hm1, hu, h0, e]
def noOk (p : PProg) (no : Int) : Prop := smallP p ∧ 0 ≤ no ∧ no < manyP p
instance (p : PProg) (no : Int) : Decidable (noOk p no) := by unfold noOk; infer_instance
theorem c_noI {p : PProg} {no : Int} (hw : wfP p) (hsm : smProgram p) {H : Heap} {K : AV → Heap → Prop} (hK : K (.bool (decide (noOk p no))) H) : ACall Tryz.prog 64 [eP p, I64 no] H K := by
  refine pureC rfl rfl ?_ hK
  refine call64 (by simp) ?_
  simp only [Tryz.results64, Tryz.ntmps64, Tryz.f64, Option.getD_some, pl64]
  simp only [go_sem]
  refine c_smallI (p := p) hw hsm ?_
  by_cases h : smallP p
  · by_cases h1 : 0 ≤ no
    · simp only [go_sem, h, h1]
      refine c_manyI (p := p) h ?_
      simp only [go_sem]
      exact bE ⟨fun e => ⟨h, h1, e⟩, fun e => e.2.2⟩
    · simp only [go_sem, h, h1]
      exact bF fun e => h1 e.2.1
  · simp only [go_sem, h]
    exact bF fun e => h e.1
theorem c_noS {p : PProg} {no : Int} (hw : wfP p) (hsm : smProgram p) {H : Heap} {K : AV → Heap → Prop} (hK : K (.bool (decide (noOk p no))) H) : ACall Tryz.prog 62 [eP p, I64 no] H K := by
  refine pureC rfl rfl ?_ hK
  refine call62 (by simp) ?_
  simp only [Tryz.results62, Tryz.ntmps62, Tryz.f62, Option.getD_some, pl62]
  simp only [go_sem]
  refine c_smallS (p := p) hw hsm ?_
  by_cases h : smallP p
  · have hml := manyP_le h
    have hwm : IntKind.wrap .i64 (manyP p - 1) = manyP p - 1 := i64_in _ (by omega)
    simp only [go_sem, h]
    refine c_manyS (p := p) h ?_
    simp only [go_sem, hwm]
    refine c_in ?_
    simp only [go_sem]
    exact bE ⟨fun e => ⟨h, e.1, by omega⟩, fun e => ⟨e.2.1, by have := e.2.2; omega⟩⟩
  · simp only [go_sem, h]
    exact bF fun e => h e.1
end Go.Proofs.YteegphdelekdaaaGreat

set_option linter.unusedVariables false
set_option linter.unusedSimpArgs false
namespace Go.Proofs.YteegphdelekdaaaGreat
open Go.Abs Go.IntWalk
set_option maxRecDepth 100000
attribute [local go_sem] eI eU eNs eN cN eChs eCh cCh eCos eCo cCo eP take_map
theorem c_holdsI {p : PProg} {w vars : Nat} {t : List PNode} {s : List Nat} (hp : p.1 = w) (hg : kindT (w : Int) (vars : Int) t ≠ 0) (hs : s.length = vars) (hsw : ∀ v ∈ s, v < 2 ^ w) {H : Heap} {K : AV → Heap → Prop} (hK : K (.bool (decide (evalT w t s = 1))) H) : ACall Tryz.prog 75 [eP p, eNs t, eU s] H K := by
  refine pureC rfl rfl ?_ hK
  refine call75 (by simp) ?_
  simp only [Tryz.results75, Tryz.ntmps75, Tryz.f75, Option.getD_some, pl75]
  simp only [go_sem, hp]
  refine c_value hg hs hsw ?_
  simp only [go_sem]
  exact bE (by omega)
theorem c_holdsS {p : PProg} {w vars : Nat} {t : List PNode} {s : List Nat} (hp : p.1 = w) (hg : kindT (w : Int) (vars : Int) t ≠ 0) (hs : s.length = vars) (hsw : ∀ v ∈ s, v < 2 ^ w) {H : Heap} {K : AV → Heap → Prop} (hK : K (.bool (decide (evalT w t s = 1))) H) : ACall Tryz.prog 79 [eP p, eNs t, eU s] H K := by
  refine pureC rfl rfl ?_ hK
  refine call79 (by simp) ?_
  simp only [Tryz.results79, Tryz.ntmps79, Tryz.f79, Option.getD_some, pl79]
  have hc := kind_conds hg
  have hwl : IntKind.wrap .i64 ((t.length : Int) - 1) = t.length - 1 := i64_in _ (by omega)
  simp only [go_sem, hp, hwl]
  refine c_valueS hg hs hsw ?_
  simp only [go_sem]
  exact bE (by omega)
/-- The state with a number. -/
def stOf (w v no : Nat) : List Nat := (List.range v).map fun i => (no / 2 ^ (w * i)) % 2 ^ w
theorem stOf_len (w v no : Nat) : (stOf w v no).length = v := by simp [stOf]
theorem stOf_lt {w v no : Nat} : ∀ x ∈ stOf w v no, x < 2 ^ w := fun x hx => by
  obtain ⟨i, _, rfl⟩ := List.mem_map.1 hx
  exact Nat.mod_lt _ (Nat.pow_pos (by omega))
theorem stOf_take {w v no i : Nat} (h : i < v) : stOf w (i + 1) no = stOf w i no ++ [(no / 2 ^ (w * i)) % 2 ^ w] := by
  simp [stOf, List.range_succ]
theorem bv_i64 (n : Nat) (h : n < 9223372036854775808) : (BitVec.ofInt IntKind.i64.bits (n : Int)).toNat = n := by
  rw [BitVec.ofInt_natCast, BitVec.toNat_ofNat]
  exact Nat.mod_eq_of_lt (by show n < 18446744073709551616; omega)
theorem and_i {a b : Nat} (ha : a < 9223372036854775808) (hb : b < 9223372036854775808) : abits .and .i64 (a : Int) (b : Int) = ((a &&& b : Nat) : Int) := by
  simp only [abits]
  rw [BitVec.toNat_and, bv_i64 a ha, bv_i64 b hb]
  exact i64_nat _ (Nat.le_trans Nat.and_le_left (by omega))
theorem resU {L : Nat → Bool} {H : Heap} {id ver T n : Nat} {l : List Nat} (hn : n = l.length) (hL : L id = false) (h : H id = .cells ver T 1 (l.map U64)) : Res L anyAV H (.ref id ver 0 n) (eU l) := Res.map1 (f := U64) (fun _ => rfl) (fun _ => rfl) hn hL h
theorem mul_le5 {w v i : Nat} (h : w * v ≤ 5) (hi : i < v) : w * i ≤ 5 := Nat.le_trans (Nat.mul_le_mul_left w (by omega)) h
theorem c_stI {p : PProg} {w v no : Nat} (hp : p.1 = w) (hv : p.2.1 = v) (h1 : 1 ≤ w) (h2 : w ≤ 64) (h3 : v ≤ 4) (h5 : w * v ≤ 5) (hno : no < 1000) {H : Heap} {K : AV → Heap → Prop} (hK : K (eU (stOf w v no)) H) : ACall Tryz.prog 76 [eP p, I64 no] H K := by
  obtain ⟨wide, vars, start, cmds⟩ := p
  simp only at hp hv
  subst hp hv
  refine ACall.pure (R := fun r H' => ∃ ver, r = .ref 7 ver 0 v ∧ H' 7 = .cells ver 73 1 ((stOf w v no).map U64)) rfl ?_ fun r H' h => by obtain ⟨ver, rfl, h⟩ := h; exact ⟨_, resU (stOf_len _ _ _).symm rfl h, rfl, hK⟩
  refine call76 (by simp) ?_
  simp only [Tryz.results76, Tryz.ntmps76, Tryz.f76, Option.getD_some, pl76]
  simp only [go_sem]
  refine ALoop.intro (pl := pl76) (fun k env H => ∃ (i v2 sv : Nat), env 1 = I64 no ∧ env 2 = .ptr 2 v2 0 ∧ env 5 = .ref 7 sv 0 i ∧ env 9 = I64 v ∧ env 10 = I64 i ∧ H 2 = .cells v2 36 1 [I64 w, I64 v, eNs start, eCos cmds] ∧ H 7 = .cells sv 73 1 ((stOf w i no).map U64) ∧ i + k = v) v (by kernel_rfl) ?_ ?_
  · simp only [go_sem]
    exact ⟨0, _, _, rfl, rfl, rfl, rfl, rfl, by omega⟩
  · rintro k env H ⟨i, v2, sv, e1, e2, e5, e9, e10, b2, b7, hk⟩
    by_cases hz : (i : Int) < v
    · have hm5 := mul_le5 h5 (show i < v by omega)
      have hwi : IntKind.wrap .i64 ((i : Int) + 1) = i + 1 := i64_in _ (by omega)
      have hun : IntKind.wrap .u64 (no : Int) = no := u64_in _ (by omega)
      have hmw : IntKind.wrap .i64 ((w : Int) * i) = ((w * i : Nat) : Int) := by rw [← Int.natCast_mul]; exact i64_in _ (by omega)
      have hm0 : (0 : Int) ≤ ((w * i : Nat) : Int) := by omega
      have hsh := shr_n (a := no) (k := w * i) (by omega)
      have h64 := pow_le64 h2
      have hp0 : 0 < 2 ^ w := Nat.pow_pos (by omega)
      have hand := and_u (a := no / 2 ^ (w * i)) (b := 2 ^ w - 1) (Nat.lt_of_le_of_lt (Nat.div_le_self _ _) (by omega)) (by omega)
      rw [and_mask] at hand
      have hlen : (stOf w i no).length = i := stOf_len _ _ _
      simp only [go_sem, pl76, e1, e2, e5, e9, e10, b2, b7, hz, hun, hmw, hm0, hsh]
      refine c_mask h1 h2 ?_
      simp only [go_sem, pl76, e1, e2, e5, e9, e10, b2, b7, hz, hun, hmw, hm0, hsh, hand, hwi, hlen]
      refine ⟨by omega, k - 1, by omega, i + 1, v2, _, rfl, rfl, rfl, rfl, ?_, by omega⟩
      congr 1
      rw [stOf_take (v := v) (by omega), List.map_append, List.take_of_length_le (by simp [hlen])]
      rfl
    · simp only [go_sem, pl76, e1, e2, e5, e9, e10, b2, b7, hz]
      have : i = v := by omega
      subst this
      exact ⟨sv, rfl, rfl⟩
theorem c_stS {p : PProg} {w v no : Nat} (hp : p.1 = w) (hv : p.2.1 = v) (h1 : 1 ≤ w) (h2 : w ≤ 62) (h3 : v ≤ 4) (h5 : w * v ≤ 5) (hno : no < 1000) {H : Heap} {K : AV → Heap → Prop} (hK : K (eU (stOf w v no)) H) : ACall Tryz.prog 80 [eP p, I64 no] H K := by
  obtain ⟨wide, vars, start, cmds⟩ := p
  simp only at hp hv
  subst hp hv
  refine ACall.pure (R := fun r H' => ∃ ver, r = .ref 900 ver 0 v ∧ H' 900 = .cells ver 73 1 ((stOf w v no).map U64)) rfl ?_ fun r H' h => by obtain ⟨ver, rfl, h⟩ := h; exact ⟨_, resU (stOf_len _ _ _).symm rfl h, rfl, hK⟩
  refine call80 (by simp) ?_
  simp only [Tryz.results80, Tryz.ntmps80, Tryz.f80, Option.getD_some, pl80]
  simp only [go_sem]
  refine ALoop.thaw 900 73 1 (t := 5) (by simp only [go_sem]) ?_
  refine ALoop.intro (pl := pl80) (fun k env H => ∃ (i v2 sv : Nat), env 1 = I64 no ∧ env 2 = .ptr 2 v2 0 ∧ env 5 = .ref 900 sv 0 i ∧ env 6 = I64 i ∧ H 2 = .cells v2 36 1 [I64 w, I64 v, eNs start, eCos cmds] ∧ H 900 = .cells sv 73 1 ((stOf w i no).map U64) ∧ i + k = v) v (by kernel_rfl) ?_ ?_
  · simp only [go_sem]
    exact ⟨0, _, _, rfl, rfl, rfl, rfl, rfl, by omega⟩
  · rintro k env H ⟨i, v2, sv, e1, e2, e5, e6, b2, b7, hk⟩
    by_cases hz : (i : Int) < v
    · have hm5 := mul_le5 h5 (show i < v by omega)
      have hwi : IntKind.wrap .i64 ((i : Int) + 1) = i + 1 := i64_in _ (by omega)
      have hmw : IntKind.wrap .i64 ((i : Int) * w) = ((w * i : Nat) : Int) := by rw [← Int.natCast_mul, Nat.mul_comm]; exact i64_in _ (by omega)
      have hmu : IntKind.wrap .u64 ((w * i : Nat) : Int) = ((w * i : Nat) : Int) := u64_in _ (by omega)
      have hwu : IntKind.wrap .u64 (w : Int) = (w : Int) := u64_in _ (by omega)
      have hm0 : (0 : Int) ≤ ((w * i : Nat) : Int) := by omega
      have hw0 : (0 : Int) ≤ (w : Int) := by omega
      have hsh := shr_n (a := no) (k := w * i) (by omega)
      have hp0 : 0 < 2 ^ w := Nat.pow_pos (by omega)
      have hp62 : 2 ^ w ≤ 2 ^ 62 := Nat.pow_le_pow_right (by omega) h2
      have h62 : (2 : Nat) ^ 62 = 4611686018427387904 := by decide
      have hone : IntKind.wrap .i64 (1 * 2 ^ min w 64) = ((2 ^ w : Nat) : Int) := by
        rw [Nat.min_eq_left (by omega), Int.one_mul, pow_cast]
        exact i64_nat _ (by omega)
      have hsub : IntKind.wrap .i64 (((2 ^ w : Nat) : Int) - 1) = ((2 ^ w - 1 : Nat) : Int) := by
        have e : ((2 ^ w : Nat) : Int) - 1 = ((2 ^ w - 1 : Nat) : Int) := by omega
        rw [e]; exact i64_nat _ (by omega)
      have hand := and_i (a := no / 2 ^ (w * i)) (b := 2 ^ w - 1) (Nat.lt_of_le_of_lt (Nat.div_le_self _ _) (by omega)) (by omega)
      rw [and_mask] at hand
      have hcv : IntKind.wrap .u64 (((no / 2 ^ (w * i)) % 2 ^ w : Nat) : Int) = (((no / 2 ^ (w * i)) % 2 ^ w : Nat) : Int) := u64_nat _ (Nat.lt_of_lt_of_le (Nat.mod_lt _ hp0) (by omega))
      have hlen : (stOf w i no).length = i := stOf_len _ _ _
      simp only [go_sem, pl80, e1, e2, e5, e6, b2, b7, hz, hmw, hmu, hwu, hm0, hw0, hsh, hone, hsub, hand, hcv, hwi, hlen]
      refine ⟨by omega, k - 1, by omega, i + 1, v2, _, rfl, rfl, rfl, rfl, ?_, by omega⟩
      congr 1
      rw [stOf_take (v := v) (by omega), List.map_append, List.take_of_length_le (by simp [hlen])]
      rfl
    · simp only [go_sem, pl80, e1, e2, e5, e6, b2, b7, hz]
      have : i = v := by omega
      subst this
      exact ⟨sv, rfl, rfl⟩
def holdsInOf (p : PProg) (t : List PNode) (no : Int) : Bool × Bool := if noOk p no ∧ kindT p.1 p.2.1 t = 2 then (decide (evalT p.1.toNat t (stOf p.1.toNat p.2.1.toNat no.toNat) = 1), true) else (false, false)
end Go.Proofs.YteegphdelekdaaaGreat

set_option linter.unusedVariables false
set_option linter.unusedSimpArgs false
namespace Go.Proofs.YteegphdelekdaaaGreat
open Go.Abs Go.IntWalk
set_option maxRecDepth 100000
attribute [local go_sem] eI eU eNs eN cN eChs eCh cCh eCos eCo cCo eP take_map
end Go.Proofs.YteegphdelekdaaaGreat

set_option linter.unusedVariables false
set_option linter.unusedSimpArgs false
namespace Go.Proofs.YteegphdelekdaaaGreat
open Go.Abs Go.IntWalk
set_option maxRecDepth 100000
attribute [local go_sem] eI eU eNs eN cN eChs eCh cCh eCos eCo cCo eP take_map
/-! Lists of words. -/
def wfU (l : List Nat) : Prop := ∀ x ∈ l, x < 18446744073709551616
theorem flat1 (f : Nat → AV) (hf : ∀ n, flat (f n) = [f n]) : ∀ t : List Nat, (t.map f).flatMap flat = t.map f
  | [] => rfl
  | a :: t => by rw [List.map_cons, List.flatMap_cons, flat1 f hf t, hf]; rfl
theorem res1 {L : Nat → Bool} {H : Heap} {id ver T n : Nat} {t : List Nat} (hn : n = t.length) (hL : L id = false) (h : H id = .cells ver T 1 (t.map U64)) : Res L anyAV H (.ref id ver 0 n) (eU t) := by
  subst hn
  have := Res.slice (L := L) (H := H) (id := id) (ver := ver) (T := T) (sz := 1) (cs := t.map U64) (es := t.map U64) hL h (flat1 _ (fun _ => rfl) t).symm
    (fun e he => by obtain ⟨x, _, rfl⟩ := List.mem_map.1 he; rfl) (fun e he y hy => by obtain ⟨x, _, rfl⟩ := List.mem_map.1 he; simp [flat] at hy; subst hy; rfl)
  rw [List.length_map] at this
  exact this
theorem c_toUint64S {t : List Nat} {H : Heap} {K : AV → Heap → Prop} (ht : t.length ≤ 1048576) (hK : K (eU t) H) : ACall Tryz.prog 15 [eU t] H K := by
  refine ACall.pure (R := fun r H' => ∃ v, r = .ref 7 v 0 t.length ∧ H' 7 = .cells v 73 1 (t.map U64)) rfl ?_ ?_
  · refine call15 (by simp) ?_
    simp only [Tryz.results15, Tryz.ntmps15, Tryz.f15, Option.getD_some, pl15]
    simp only [go_sem]
    refine ⟨by omega, by omega, by omega, by omega, ?_⟩
    refine ALoop.intro (pl := pl15) (fun k env H => ∃ (i v : Nat) (C : List AV), env 0 = eU t ∧ env 3 = .ref 7 v 0 t.length ∧ env 4 = I64 i ∧ H 7 = .cells v 73 1 C ∧ i + k = t.length ∧ C.length = t.length ∧ C.take i = (t.take i).map U64) t.length (by kernel_rfl) ?_ ?_
    · simp only [go_sem]
      exact ⟨0, _, _, rfl, rfl, rfl, by omega, by rw [reps_len]; simp, rfl⟩
    · rintro k env H ⟨i, v, C, e0, e3, e4, b7, hk, hC, hT⟩
      by_cases hz : (i : Int) < t.length
      · obtain ⟨x, hx⟩ := get_some (l := t) (i := i) (by omega)
        have h0 : (0 : Int) ≤ i := by omega
        have hw : IntKind.wrap .i64 ((i : Int) + 1) = i + 1 := i64_in _ (by omega)
        simp only [go_sem, pl15, e0, e3, e4, b7, hz, hx, h0, hw]
        refine ⟨by omega, k - 1, by omega, i + 1, _, _, rfl, rfl, rfl, by omega, ?_, ?_⟩
        · rw [List.length_set]; exact hC
        · rw [set_take (by omega), hT, take_one hx, List.map_append]; rfl
      · simp only [go_sem, e0, e3, e4, b7, hz]
        rw [List.take_of_length_le (by omega), List.take_of_length_le (by omega)] at hT
        exact ⟨v, rfl, by rw [hT]⟩
  · rintro r H' ⟨v, rfl, h⟩
    exact ⟨_, res1 rfl rfl h, rfl, hK⟩
theorem c_eqUint64S {a b : List Nat} {H : Heap} {K : AV → Heap → Prop} (ha : a.length ≤ 1048576) (hb : b.length ≤ 1048576) (hK : K (.bool (decide (a = b))) H) : ACall Tryz.prog 21 [eU a, eU b] H K := by
  refine ACall.pure (R := fun r _ => r = .bool (decide (a = b))) rfl ?_ fun r H' h => by subst h; exact ⟨_, .cl rfl, rfl, hK⟩
  refine call21 (by simp) ?_
  simp only [Tryz.results21, Tryz.ntmps21, Tryz.f21, Option.getD_some, pl21]
  by_cases hlen : (a.length : Int) = b.length
  · simp only [go_sem, hlen]
    refine ALoop.intro (pl := pl21) (fun k env H => ∃ i : Nat, env 0 = eU a ∧ env 1 = eU b ∧ env 5 = I64 i ∧ i + k = a.length ∧ a.take i = b.take i) a.length (by kernel_rfl) ?_ ?_
    · simp only [go_sem]
      exact ⟨0, rfl, by omega, rfl⟩
    · rintro k env H ⟨i, e0, e1, e5, hk, ht⟩
      by_cases hz : (i : Int) < a.length
      · obtain ⟨x, hx⟩ := get_some (l := a) (i := i) (by omega)
        obtain ⟨y, hy⟩ := get_some (l := b) (i := i) (by omega)
        have hw : IntKind.wrap .i64 ((i : Int) + 1) = i + 1 := i64_in _ (by omega)
        have h0 : (0 : Int) ≤ i := by omega
        by_cases hxy : (x : Int) = y
        · simp only [go_sem, pl21, e0, e1, e5, hz, hx, hy, h0, hxy, hw]
          exact ⟨k - 1, by omega, i + 1, rfl, by omega, take_step ht hx hy (Int.natCast_inj.1 hxy)⟩
        · simp only [go_sem, pl21, e0, e1, e5, hz, hx, hy, h0, hxy]
          exact bF fun e => by rw [e, hy] at hx; injection hx with hx; exact hxy (by rw [hx])
      · simp only [go_sem, e0, e1, e5, hz]
        exact bT (by rw [← List.take_of_length_le (l := a) (i := i) (by omega), ht, List.take_of_length_le (by omega)])
  · simp only [go_sem, hlen]
    exact bF fun e => hlen (by rw [e])
/-- All words good: the spec's loop. -/
theorem c_words {wide : Int} {s : List Nat} (hs : wfU s) (hl : s.length ≤ 1000000000) {H : Heap} {K : AV → Heap → Prop} (hK : K (.bool (decide (∀ x ∈ s, gw wide x))) H) : ACall Tryz.prog 105 [I64 wide, eU s] H K := by
  refine pureC rfl rfl ?_ hK
  refine call105 (by simp) ?_
  simp only [Tryz.results105, Tryz.ntmps105, Tryz.f105, Option.getD_some, pl105]
  simp only [go_sem]
  refine ALoop.intro (pl := pl105) (fun k env H => ∃ i : Nat, env 0 = I64 wide ∧ env 7 = eU s ∧ env 8 = I64 s.length ∧ env 9 = I64 i ∧ i + k = s.length ∧ ∀ x ∈ s.take i, gw wide x) s.length (by kernel_rfl) ?_ ?_
  · simp only [go_sem]
    exact ⟨0, by simp⟩
  · rintro k env H ⟨i, e0, e7, e8, e9, hk, ht⟩
    by_cases hz : (i : Int) < s.length
    · obtain ⟨x, hx⟩ := get_some (l := s) (i := i) (by omega)
      have h0 : (0 : Int) ≤ i := by omega
      have hw : IntKind.wrap .i64 ((i : Int) + 1) = i + 1 := i64_in _ (by omega)
      have hxm := List.mem_of_getElem? hx
      simp only [go_sem, pl105, e0, e7, e8, e9, hz, hx, h0]
      refine c_gwS (hs x hxm) ?_
      by_cases hp : gw wide x
      · simp only [go_sem, pl105, e0, e7, e8, e9, hz, hw, hp]
        refine ⟨k - 1, by omega, i + 1, rfl, by omega, ?_⟩
        intro y hy
        rw [take_one hx] at hy
        rcases List.mem_append.1 hy with hy | hy
        · exact ht y hy
        · rw [List.mem_singleton.1 hy]; exact hp
      · simp only [go_sem, hp]
        exact bF fun e => hp (e x hxm)
    · simp only [go_sem, pl105, e0, e7, e8, e9, hz]
      rw [List.take_of_length_le (by omega)] at ht
      exact bT ht
def okS (wide vars : Int) (s : List Nat) : Prop := (s.length : Int) = vars ∧ ∀ x ∈ s, gw wide x
instance (wide vars : Int) (s : List Nat) : Decidable (okS wide vars s) := by unfold okS; infer_instance
theorem c_l7State {p : PProg} {s : List Nat} (hs : wfU s) (hl : s.length ≤ 1000000000) {H : Heap} {K : AV → Heap → Prop} (hK : K (.bool (decide (okS p.1 p.2.1 s))) H) : ACall Tryz.prog 52 [eP p, eU s] H K := by
  refine pureC rfl rfl ?_ hK
  refine call52 (by simp) ?_
  simp only [Tryz.results52, Tryz.ntmps52, Tryz.f52, Option.getD_some, pl52]
  by_cases h : (s.length : Int) = p.2.1
  · simp only [go_sem, h]
    refine c_words (wide := p.1) hs hl ?_
    simp only [go_sem]
    exact bE ⟨fun e => ⟨h, e⟩, fun e => e.2⟩
  · simp only [go_sem, h]
    exact bF fun e => h e.1
/-- The closure of isState. -/
theorem c_stCl {wide : Int} {x v : Nat} (hx : x < 18446744073709551616) {H : Heap} {K : AV → Heap → Prop} (hH : H 1000000 = .cells v 3 1 [I64 wide]) (hK : K (.bool (decide (¬ gw wide x))) H) : ACall Tryz.prog 141 [U64 x, .ptr 1000000 v 0] H K := by
  refine ACall.with1 (xs := [U64 x]) (R := fun r H' => r = .bool (decide (¬ gw wide x)) ∧ H' 1000000 = .cells v 3 1 [I64 wide]) (.ptr 1000000 v 0) rfl hH rfl rfl ?_ ?_
  · refine call141 (by simp) ?_
    simp only [Tryz.results141, Tryz.ntmps141, Tryz.f141, Option.getD_some, pl141]
    simp only [go_sem]
    refine c_gwI hx ?_
    simp only [go_sem, decide_not]
  · rintro r H' ⟨rfl, h⟩
    exact ⟨h, _, .cl rfl, rfl, hK⟩
def isSt (wide vars : Int) (s : List Nat) : Prop := wideOk wide ∧ (1 ≤ vars ∧ vars ≤ 4) ∧ okS wide vars s
instance (wide vars : Int) (s : List Nat) : Decidable (isSt wide vars s) := by unfold isSt; infer_instance
theorem c_isState {wide vars : Int} {s : List Nat} (hs : wfU s) (hl : s.length ≤ 1000000000) {H : Heap} {K : AV → Heap → Prop} (hK : K (.bool (decide (isSt wide vars s))) H) : ACall Tryz.prog 110 [I64 wide, I64 vars, eU s] H K := by
  refine pureC rfl rfl ?_ hK
  refine call110 (by simp) ?_
  simp only [Tryz.results110, Tryz.ntmps110, Tryz.f110, Option.getD_some, pl110]
  simp only [go_sem]
  refine c_wideI ?_
  by_cases h1 : wideOk wide
  · simp only [go_sem, h1]
    refine c_varsI ?_
    by_cases h2 : 1 ≤ vars ∧ vars ≤ 4
    · by_cases h3 : (s.length : Int) = vars
      · simp only [go_sem, h2, h3]
        refine c_contUw (wide := wide) (l := s) (id := 3) hl (by simp only [go_sem]) (fun x hx H K hH hK => c_stCl (hs x hx) hH hK) ?_
        simp only [go_sem]
        have e : (!decide (¬ ∀ x ∈ s, ¬ ¬ gw wide x)) = decide (isSt wide vars s) := by
          rw [← decide_not]
          refine decide_eq_decide.2 ?_
          rw [not_all_not, Decidable.not_not]
          exact ⟨fun h => ⟨h1, h2, h3, h⟩, fun h => h.2.2.2⟩
        rw [e]
      · simp only [go_sem, h2, h3]
        exact bF fun e => h3 e.2.2.1
    · simp only [go_sem, h2]
      exact bF fun e => h2 e.2.1
  · simp only [go_sem, h1]
    exact bF fun e => h1 e.1
/-- A state of a good program. -/
def stateOk (p : PProg) (s : List Nat) : Prop := goodP p ∧ okS p.1 p.2.1 s
instance (p : PProg) (s : List Nat) : Decidable (stateOk p s) := by unfold stateOk; infer_instance
theorem c_isStateOf {p : PProg} {s : List Nat} (hw : wfP p) (hsm : smProgram p) (hs : wfU s) (hl : s.length ≤ 1000000000) {H : Heap} {K : AV → Heap → Prop} (hK : K (.bool (decide (stateOk p s))) H) : ACall Tryz.prog 55 [eP p, eU s] H K := by
  refine pureC rfl rfl ?_ hK
  refine call55 (by simp) ?_
  simp only [Tryz.results55, Tryz.ntmps55, Tryz.f55, Option.getD_some, pl55]
  simp only [go_sem]
  refine c_goodPI (p := p) hw hsm ?_
  by_cases h : goodP p
  · simp only [go_sem, h]
    refine c_isState (wide := p.1) (vars := p.2.1) hs hl ?_
    simp only [go_sem]
    exact bE ⟨fun e => ⟨h, e.2.2⟩, fun e => ⟨(good_conds h).1, (good_conds h).2, e.2⟩⟩
  · simp only [go_sem, h]
    exact bF fun e => h e.1
theorem state_conds {p : PProg} {s : List Nat} (h : stateOk p s) : ∃ w v : Nat, p.1 = w ∧ p.2.1 = v ∧ 1 ≤ w ∧ w ≤ 64 ∧ 1 ≤ v ∧ v ≤ 4 ∧ s.length = v ∧ ∀ x ∈ s, x < 2 ^ w := by
  have h1 := good_conds h.1
  obtain ⟨w, hw, h2, h3⟩ := wide_nat h1.1
  refine ⟨w, p.2.1.toNat, hw, by omega, h2, h3, by omega, by omega, by have := h.2.1; omega, fun x hx => ?_⟩
  have := (h.2.2 x hx).2
  rwa [hw, Int.toNat_natCast] at this
def startOf (p : PProg) (s : List Nat) : Bool × Bool := if stateOk p s then (decide (evalT p.1.toNat p.2.2.1 s = 1), true) else (false, false)
end Go.Proofs.YteegphdelekdaaaGreat
