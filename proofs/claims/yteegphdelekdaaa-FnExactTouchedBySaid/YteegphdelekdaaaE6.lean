/- Texts of ours, joined: YteegphdelekdaaaH29 YteegphdelekdaaaH30 YteegphdelekdaaaH31. -/
import Derived.Test.YteegphdelekdaaaE5
set_option linter.unusedVariables false
set_option linter.unusedSimpArgs false
namespace Go.Proofs.Yteegphdelekdaaa
open Go.Abs Go.IntWalk
set_option maxRecDepth 100000
attribute [local go_sem] eI eU eNs eN cN eChs eCh cCh eCos eCo cCo eP take_map
/-! Words that are ours; Enabled. -/
def uV (n : Int) : AV := .int .u64 n
/-- The commands that are enabled. -/
def enab (w : Nat) (cmds : List PCommand) (s : List Nat) (n : Nat) : List Int := ((List.range n).filter fun k => ((cmds[k]?).map fun c => decide (evalT w c.1 s = 1)).getD false).map fun (k : Nat) => (k : Int)
theorem enab_succ {w n : Nat} {cmds : List PCommand} {s : List Nat} {c : PCommand} (hc : cmds[n]? = some c) : enab w cmds s (n + 1) = if evalT w c.1 s = 1 then enab w cmds s n ++ [(n : Int)] else enab w cmds s n := by
  unfold enab
  rw [List.range_succ, List.filter_append, List.map_append]
  by_cases h : evalT w c.1 s = 1
  · rw [if_pos h, List.filter_cons_of_pos (by simp [h, hc])]; rfl
  · rw [if_neg h, List.filter_cons_of_neg (by simp [h, hc])]; simp
theorem enab_len {w n : Nat} {cmds : List PCommand} {s : List Nat} : (enab w cmds s n).length ≤ n := by
  unfold enab
  rw [List.length_map]
  exact Nat.le_trans (List.length_filter_le _ _) (by simp)
def enabledOf (p : PProg) (s : List Nat) : List Int := if stateOk p s then enab p.1.toNat p.2.2.2 s p.2.2.2.length else []
theorem enabled_ok {p : PProg} {s : List Nat} {w : Nat} (h : stateOk p s) (e : p.1 = w) : enabledOf p s = enab w p.2.2.2 s p.2.2.2.length := by
  unfold enabledOf
  rw [if_pos h, e, Int.toNat_natCast]
theorem enabled_len {p : PProg} {s : List Nat} : (enabledOf p s).length ≤ 6 := by
  unfold enabledOf
  split
  · rename_i h
    exact Nat.le_trans enab_len h.1.2.1.2
  · simp
end Go.Proofs.Yteegphdelekdaaa

set_option linter.unusedVariables false
set_option linter.unusedSimpArgs false
namespace Go.Proofs.Yteegphdelekdaaa
open Go.Abs Go.IntWalk
set_option maxRecDepth 100000
attribute [local go_sem] eI eU eNs eN cN eChs eCh cCh eCos eCo cCo eP take_map
theorem enabled_no {p : PProg} {s : List Nat} (h : ¬ stateOk p s) : enabledOf p s = [] := by unfold enabledOf; rw [if_neg h]
theorem frU {l : List Nat} {H : Heap} {id ver T : Nat} {β : Nat → Bool} (hb : β id = true) (h : H id = .cells ver T 1 (l.map U64)) : FRes H β anyAV (.ref id ver 0 l.length) (eU l) := FRes.map1 (f := U64) (fun _ => rfl) (fun _ => rfl) rfl hb h
end Go.Proofs.Yteegphdelekdaaa

set_option linter.unusedVariables false
set_option linter.unusedSimpArgs false
namespace Go.Proofs.Yteegphdelekdaaa
open Go.Abs Go.IntWalk
set_option maxRecDepth 100000
attribute [local go_sem] eI eU eNs eN cN eChs eCh cCh eCos eCo cCo eP take_map
end Go.Proofs.Yteegphdelekdaaa
