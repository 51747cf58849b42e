/- Texts of ours, joined: YteegphdelekdaaaH32 YteegphdelekdaaaH33 YteegphdelekdaaaH34 YteegphdelekdaaaH35 YteegphdelekdaaaH36 YteegphdelekdaaaH37 YteegphdelekdaaaH38. -/
import Derived.Test.YteegphdelekdaaaE6
set_option linter.unusedVariables false
set_option linter.unusedSimpArgs false
namespace Go.Proofs.Yteegphdelekdaaa
open Go.Abs Go.IntWalk
set_option maxRecDepth 100000
attribute [local go_sem] eI eU eNs eN cN eChs eCh cCh eCos eCo cCo eP take_map
/-! StepBy. -/
theorem c_has {l : List Int} {x : Int} {H : Heap} {K : AV → Heap → Prop} (hl : l.length ≤ 1000000000) (hK : K (.bool (decide (x ∈ l))) H) : ACall Try.prog 39 [eI l, I64 x] H K := by
  refine pureC rfl rfl ?_ hK
  refine call39 (by simp) ?_
  simp only [Try.results39, Try.ntmps39, Try.f39, Option.getD_some, pl39]
  simp only [go_sem]
  refine ALoop.intro (pl := pl39) (fun k env H => ∃ i : Nat, env 1 = I64 x ∧ env 7 = eI l ∧ env 8 = I64 l.length ∧ env 9 = I64 i ∧ i + k = l.length ∧ ¬ x ∈ l.take i) l.length (by kernel_rfl) ?_ ?_
  · simp only [go_sem]
    exact ⟨0, by simp⟩
  · rintro k env H ⟨i, e1, e7, e8, e9, hk, ht⟩
    by_cases hz : (i : Int) < l.length
    · obtain ⟨y, hy⟩ := get_some (l := l) (i := i) (by omega)
      have h0 : (0 : Int) ≤ i := by omega
      have hw : IntKind.wrap .i64 ((i : Int) + 1) = i + 1 := i64_in _ (by omega)
      by_cases hp : y = x
      · simp only [go_sem, pl39, e1, e7, e8, e9, hz, hy, h0, hp]
        exact bT (by rw [← hp]; exact List.mem_of_getElem? hy)
      · simp only [go_sem, pl39, e1, e7, e8, e9, hz, hy, h0, hw, hp]
        refine ⟨k - 1, by omega, i + 1, rfl, by omega, ?_⟩
        rw [take_one hy, List.mem_append, List.mem_singleton]
        exact fun h => h.elim ht fun h => hp h.symm
    · simp only [go_sem, pl39, e1, e7, e8, e9, hz]
      rw [List.take_of_length_le (by omega)] at ht
      exact bF ht
/-- One step. -/
def stepTo (w : Nat) (s : List Nat) : List PChange → List Nat → List Nat
  | [], out => out
  | c :: cs, out => stepTo w s cs (out.set c.1.toNat (evalT w c.2 s))
end Go.Proofs.Yteegphdelekdaaa

set_option linter.unusedVariables false
set_option linter.unusedSimpArgs false
namespace Go.Proofs.Yteegphdelekdaaa
open Go.Abs Go.IntWalk
set_option maxRecDepth 100000
attribute [local go_sem] eI eU eNs eN cN eChs eCh cCh eCos eCo cCo eP take_map
theorem stepTo_app {w : Nat} {s : List Nat} {x : PChange} : ∀ {l : List PChange} {out : List Nat}, stepTo w s (l ++ [x]) out = (stepTo w s l out).set x.1.toNat (evalT w x.2 s)
  | [], out => rfl
  | c :: l, out => by simp only [List.cons_append, stepTo, stepTo_app (l := l)]
theorem stepTo_len {w : Nat} {s : List Nat} : ∀ {l : List PChange} {out : List Nat}, (stepTo w s l out).length = out.length
  | [], out => rfl
  | c :: l, out => by simp only [stepTo, stepTo_len (l := l), List.length_set]
theorem chs_at {wide vars : Int} : ∀ {l : List PChange} {prev : Int} {x : PChange}, chsOk wide vars prev l → x ∈ l → (0 ≤ x.1 ∧ x.1 < vars) ∧ kindT wide vars x.2 = 1
  | c :: l, prev, x, h, hx => by
    rw [chsOk] at h
    rcases List.mem_cons.1 hx with rfl | hx
    · exact ⟨h.1, h.2.2.1⟩
    · exact chs_at h.2.2.2 hx
end Go.Proofs.Yteegphdelekdaaa

set_option linter.unusedVariables false
set_option linter.unusedSimpArgs false
namespace Go.Proofs.Yteegphdelekdaaa
open Go.Abs Go.IntWalk
set_option maxRecDepth 100000
attribute [local go_sem] eI eU eNs eN cN eChs eCh cCh eCos eCo cCo eP take_map
end Go.Proofs.Yteegphdelekdaaa

set_option linter.unusedVariables false
set_option linter.unusedSimpArgs false
namespace Go.Proofs.Yteegphdelekdaaa
open Go.Abs Go.IntWalk
set_option maxRecDepth 100000
attribute [local go_sem] eI eU eNs eN cN eChs eCh cCh eCos eCo cCo eP take_map
/-- The step by a command: what comes back, and whether there is one. -/
def stepOk (p : PProg) (s : List Nat) (k : Int) : Prop := stateOk p s ∧ 0 ≤ k ∧ ∃ c, p.2.2.2[k.toNat]? = some c ∧ evalT p.1.toNat c.1 s = 1
theorem mem_enab {w n : Nat} {cmds : List PCommand} {s : List Nat} {k : Int} (hn : n = cmds.length) : k ∈ enab w cmds s n ↔ 0 ≤ k ∧ ∃ c, cmds[k.toNat]? = some c ∧ evalT w c.1 s = 1 := by
  subst hn
  unfold enab
  simp only [List.mem_map, List.mem_filter, List.mem_range]
  constructor
  · rintro ⟨j, ⟨h1, h2⟩, rfl⟩
    obtain ⟨c, hc⟩ := get_some (l := cmds) (i := j) h1
    rw [hc] at h2
    simp at h2
    exact ⟨by omega, c, by rw [Int.toNat_natCast]; exact hc, h2⟩
  · rintro ⟨h0, c, hc, he⟩
    refine ⟨k.toNat, ⟨(List.getElem?_eq_some_iff.1 hc).1, ?_⟩, by omega⟩
    rw [hc]; simp [he]
theorem mem_enabled {p : PProg} {s : List Nat} {k : Int} : k ∈ enabledOf p s ↔ stepOk p s k := by
  unfold enabledOf stepOk
  by_cases h : stateOk p s
  · rw [if_pos h, mem_enab rfl]
    exact ⟨fun h2 => ⟨h, h2⟩, fun h2 => h2.2⟩
  · rw [if_neg h]
    exact ⟨fun h2 => by simp at h2, fun h2 => absurd h2.1 h⟩
instance (p : PProg) (s : List Nat) (k : Int) : Decidable (stepOk p s k) := decidable_of_iff _ mem_enabled
def stepOf (p : PProg) (s : List Nat) (k : Int) : List Nat := if stepOk p s k then stepTo p.1.toNat s ((p.2.2.2[k.toNat]?).getD ([], [])).2 s else []
end Go.Proofs.Yteegphdelekdaaa

set_option linter.unusedVariables false
set_option linter.unusedSimpArgs false
namespace Go.Proofs.Yteegphdelekdaaa
open Go.Abs Go.IntWalk
set_option maxRecDepth 100000
attribute [local go_sem] eI eU eNs eN cN eChs eCh cCh eCos eCo cCo eP take_map
theorem c_noCmd {p : PProg} {k : Int} (hl : p.2.2.2.length ≤ 1048576) {H : Heap} {K : AV → Heap → Prop} (hK : K (.bool (decide (0 ≤ k ∧ k < p.2.2.2.length))) H) : ACall Try.prog 32 [eP p, I64 k] H K := by
  refine pureC rfl rfl ?_ hK
  refine call32 (by simp) ?_
  simp only [Try.results32, Try.ntmps32, Try.f32, Option.getD_some, pl32]
  by_cases h : 0 ≤ k
  · simp only [go_sem, h]
  · simp only [go_sem, h]
    exact bF fun e => e.1
end Go.Proofs.Yteegphdelekdaaa

set_option linter.unusedVariables false
set_option linter.unusedSimpArgs false
namespace Go.Proofs.Yteegphdelekdaaa
open Go.Abs Go.IntWalk
set_option maxRecDepth 100000
attribute [local go_sem] eI eU eNs eN cN eChs eCh cCh eCos eCo cCo eP take_map
theorem step_no {p : PProg} {s : List Nat} {k : Int} (h : ¬ stepOk p s k) : stepOf p s k = [] := by unfold stepOf; rw [if_neg h]
theorem step_len {p : PProg} {s : List Nat} {k : Int} (h : stepOk p s k) : (stepOf p s k).length = s.length := by unfold stepOf; rw [if_pos h, stepTo_len]
theorem step_len4 {p : PProg} {s : List Nat} {k : Int} : (stepOf p s k).length ≤ 4 := by
  by_cases h : stepOk p s k
  · rw [step_len h]
    obtain ⟨w, v, _, _, _, _, _, h4, h5, _⟩ := state_conds h.1
    omega
  · rw [step_no h]; simp
end Go.Proofs.Yteegphdelekdaaa

set_option linter.unusedVariables false
set_option linter.unusedSimpArgs false
namespace Go.Proofs.Yteegphdelekdaaa
open Go.Abs Go.IntWalk
set_option maxRecDepth 100000
attribute [local go_sem] eI eU eNs eN cN eChs eCh cCh eCos eCo cCo eP take_map
theorem frUl {l : List Nat} {n : Nat} (hn : l.length = n) {H : Heap} {id ver T : Nat} {β : Nat → Bool} (hb : β id = true) (h : H id = .cells ver T 1 (l.map U64)) : FRes H β anyAV (.ref id ver 0 n) (eU l) := by subst hn; exact frU hb h
theorem frCu {k : Int} {n : Nat} {H : Heap} {id ver T : Nat} {β : Nat → Bool} (hb : β id = true) (h : H id = .cells ver T 1 ((cnt k n).map uV)) : FRes H β anyAV (.ref id ver 0 n) (.sl 1 ((cnt k n).map uV)) := FRes.map1 (f := uV) (fun _ => rfl) (fun _ => rfl) cnt_len.symm hb h
end Go.Proofs.Yteegphdelekdaaa
