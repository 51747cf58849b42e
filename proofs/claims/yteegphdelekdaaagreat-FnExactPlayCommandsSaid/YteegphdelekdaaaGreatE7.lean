/- Texts of ours, joined: YteegphdelekdaaaGreatH32 YteegphdelekdaaaGreatH33 YteegphdelekdaaaGreatH34 YteegphdelekdaaaGreatH35 YteegphdelekdaaaGreatH36 YteegphdelekdaaaGreatH37 YteegphdelekdaaaGreatH38. -/
import Derived.Test.YteegphdelekdaaaGreatE6
set_option linter.unusedVariables false
set_option linter.unusedSimpArgs false
namespace Go.Proofs.YteegphdelekdaaaGreat
open Go.Abs Go.IntWalk
set_option maxRecDepth 100000
attribute [local go_sem] eI eU eNs eN cN eChs eCh cCh eCos eCo cCo eP take_map
/-! StepBy. -/
theorem c_has {l : List Int} {x : Int} {H : Heap} {K : AV → Heap → Prop} (hl : l.length ≤ 1000000000) (hK : K (.bool (decide (x ∈ l))) H) : ACall Tryz.prog 70 [eI l, I64 x] H K := by
  refine pureC rfl rfl ?_ hK
  refine call70 (by simp) ?_
  simp only [Tryz.results70, Tryz.ntmps70, Tryz.f70, Option.getD_some, pl70]
  simp only [go_sem]
  refine ALoop.intro (pl := pl70) (fun k env H => ∃ i : Nat, env 1 = I64 x ∧ env 7 = eI l ∧ env 8 = I64 l.length ∧ env 9 = I64 i ∧ i + k = l.length ∧ ¬ x ∈ l.take i) l.length (by kernel_rfl) ?_ ?_
  · simp only [go_sem]
    exact ⟨0, by simp⟩
  · rintro k env H ⟨i, e1, e7, e8, e9, hk, ht⟩
    by_cases hz : (i : Int) < l.length
    · obtain ⟨y, hy⟩ := get_some (l := l) (i := i) (by omega)
      have h0 : (0 : Int) ≤ i := by omega
      have hw : IntKind.wrap .i64 ((i : Int) + 1) = i + 1 := i64_in _ (by omega)
      by_cases hp : y = x
      · simp only [go_sem, pl70, e1, e7, e8, e9, hz, hy, h0, hp]
        exact bT (by rw [← hp]; exact List.mem_of_getElem? hy)
      · simp only [go_sem, pl70, e1, e7, e8, e9, hz, hy, h0, hw, hp]
        refine ⟨k - 1, by omega, i + 1, rfl, by omega, ?_⟩
        rw [take_one hy, List.mem_append, List.mem_singleton]
        exact fun h => h.elim ht fun h => hp h.symm
    · simp only [go_sem, pl70, e1, e7, e8, e9, hz]
      rw [List.take_of_length_le (by omega)] at ht
      exact bF ht
theorem c_heldUint64S {n : Nat} {k : Int} {H : Heap} {K : AV → Heap → Prop} (hn : n ≤ 1000000000) (hk0 : 0 ≤ k) (hk : k ≤ 1000000) (hK : K (I64 (k + n)) H) : ACall Tryz.prog 61 [.sl 1 ((cnt k n).map uV), I64 k] H K := by
  refine ACall.pure (R := fun r _ => r = I64 (k + n)) rfl ?_ fun r H' h => by subst h; exact ⟨_, .cl rfl, rfl, hK⟩
  refine call61 (by simp) ?_
  simp only [Tryz.results61, Tryz.ntmps61, Tryz.f61, Option.getD_some, pl61]
  have hl : (cnt k n).length = n := cnt_len
  simp only [go_sem]
  refine ALoop.intro (pl := pl61) (fun q env H => ∃ i : Nat, env 0 = .sl 1 ((cnt k n).map uV) ∧ env 1 = I64 (k + (i : Nat)) ∧ env 5 = I64 i ∧ i + q = n) n (by kernel_rfl) ?_ ?_
  · simp only [go_sem]
    exact ⟨0, by simp, rfl, by omega⟩
  · rintro q env H ⟨i, e0, e1, e5, hq⟩
    by_cases hz : (i : Int) < n
    · have h0 : (0 : Int) ≤ i := by omega
      have hx := cnt_get (k := k) (show i < n by omega)
      have hw : IntKind.wrap .i64 ((i : Int) + 1) = i + 1 := i64_in _ (by omega)
      have hw1 : IntKind.wrap .i64 (k + (i : Int) + 1) = k + ((i + 1 : Nat) : Int) := by rw [i64_in _ (by omega)]; omega
      have hw2 : IntKind.wrap .u64 (k + (i : Int)) = k + (i : Nat) := u64_in _ (by omega)
      simp only [go_sem, pl61, e0, e1, e5, hz, hl, hx, h0, hw, hw1, hw2, uV]
      exact ⟨q - 1, by omega, i + 1, rfl, rfl, by omega⟩
    · simp only [go_sem, e0, e1, e5, hl, hz]
      have : i = n := by omega
      rw [this]
/-- One step. -/
def stepTo (w : Nat) (s : List Nat) : List PChange → List Nat → List Nat
  | [], out => out
  | c :: cs, out => stepTo w s cs (out.set c.1.toNat (evalT w c.2 s))
end Go.Proofs.YteegphdelekdaaaGreat

set_option linter.unusedVariables false
set_option linter.unusedSimpArgs false
namespace Go.Proofs.YteegphdelekdaaaGreat
open Go.Abs Go.IntWalk
set_option maxRecDepth 100000
attribute [local go_sem] eI eU eNs eN cN eChs eCh cCh eCos eCo cCo eP take_map
theorem stepTo_app {w : Nat} {s : List Nat} {x : PChange} : ∀ {l : List PChange} {out : List Nat}, stepTo w s (l ++ [x]) out = (stepTo w s l out).set x.1.toNat (evalT w x.2 s)
  | [], out => rfl
  | c :: l, out => by simp only [List.cons_append, stepTo, stepTo_app (l := l)]
theorem stepTo_len {w : Nat} {s : List Nat} : ∀ {l : List PChange} {out : List Nat}, (stepTo w s l out).length = out.length
  | [], out => rfl
  | c :: l, out => by simp only [stepTo, stepTo_len (l := l), List.length_set]
theorem k_clone {s : List Nat} (h1 : 1 ≤ s.length) (h2 : s.length ≤ 1000) {H : Heap} : ACall Tryz.prog 57 [eU s] H fun r H' => ∃ ver, r = .ref 5 ver 0 s.length ∧ H' 5 = .cells ver 73 1 (s.map U64) := by
  obtain ⟨x, t, rfl⟩ : ∃ x t, s = x :: t := by cases s with
    | nil => simp at h1
    | cons x t => exact ⟨x, t, rfl⟩
  refine call57 (by simp) ?_
  simp only [Tryz.results57, Tryz.ntmps57, Tryz.f57, Option.getD_some, pl57]
  simp only [go_sem, List.map_cons]
  have hf := flat1 U64 (fun _ => rfl) t
  simp only [List.length_cons] at h2
  exact ⟨⟨_, rfl⟩, fun b hb => ⟨fun e => (hb e).elim, fun _ => ⟨by omega, by rw [hf]; exact sc_map (fun _ => rfl) t, _, rfl, by rw [hf]⟩⟩⟩
theorem chs_at {wide vars : Int} : ∀ {l : List PChange} {prev : Int} {x : PChange}, chsOk wide vars prev l → x ∈ l → (0 ≤ x.1 ∧ x.1 < vars) ∧ kindT wide vars x.2 = 1
  | c :: l, prev, x, h, hx => by
    rw [chsOk] at h
    rcases List.mem_cons.1 hx with rfl | hx
    · exact ⟨h.1, h.2.2.1⟩
    · exact chs_at h.2.2.2 hx
theorem o_clone {s : List Nat} (e : Nat) (he : 1000000 ≤ e) (h1 : 1 ≤ s.length) (h2 : s.length ≤ 1000) {H : Heap} {K : AV → Heap → Prop} (hg : ∃ v0, H e = .gone v0) (hK : ∀ ver, K (.ref e ver 0 s.length) (upd H e (.cells ver 73 1 (s.map U64)))) : ACall Tryz.prog 57 [eU s] H K := by
  obtain ⟨v0, hg⟩ := hg
  refine ACall.own1 e hg rfl (cll_map fun _ => rfl) ?_ hK
  refine ACall.named 1000000 (by omega) (s := 5) (by omega) (T := 73) (sz := 1) (len := s.length) (Q := fun cs H' => cs = s.map U64) ((k_clone h1 h2).mono fun r H' h => ?_) ?_
  · obtain ⟨ver, h1, h2⟩ := h
    exact ⟨ver, _, h1, h2, rfl⟩
  · rintro v ver cs H' rfl
    exact ⟨ver, rfl, upd_same ..⟩
theorem k_after {p : PProg} {c : PCommand} {s : List Nat} {w v : Nat} (hp : p.1 = w) (hc : chsOk w v (-1) c.2) (hcl : c.2.length ≤ 1000) (hs : s.length = v) (hv : 1 ≤ v) (hv4 : v ≤ 4) (hsw : ∀ x ∈ s, x < 2 ^ w) {H : Heap} (hg : ∃ v0, H 1000000 = .gone v0) : ACall Tryz.prog 112 [eP p, eCo c, eU s] H fun r H' => ∃ ver, r = .ref 1000000 ver 0 v ∧ H' 1000000 = .cells ver 73 1 ((stepTo w s c.2 s).map U64) := by
  refine call112 (by simp) ?_
  simp only [Tryz.results112, Tryz.ntmps112, Tryz.f112, Option.getD_some, pl112]
  simp only [go_sem, hp]
  refine o_clone (s := s) 1000000 (by omega) (by omega) (by omega) ?_ fun ver => ?_
  · obtain ⟨v0, hg⟩ := hg
    exact ⟨v0, by simp only [go_sem]; exact hg⟩
  simp only [go_sem, hp]
  refine ALoop.intro (pl := pl112) (fun k env H => ∃ (i v3 sv : Nat), env 2 = eU s ∧ env 3 = .ptr 3 v3 0 ∧ env 7 = .ref 1000000 sv 0 v ∧ env 13 = eChs c.2 ∧ env 14 = I64 c.2.length ∧ env 15 = I64 i ∧ H 3 = .cells v3 36 1 [I64 w, I64 p.2.1, eNs p.2.2.1, eCos p.2.2.2] ∧ H 1000000 = .cells sv 73 1 ((stepTo w s (c.2.take i) s).map U64) ∧ i + k = c.2.length) c.2.length (by kernel_rfl) ?_ ?_
  · simp only [go_sem]
    exact ⟨0, _, _, rfl, by rw [hs], rfl, rfl, rfl, by omega⟩
  · rintro k env H ⟨i, v3, sv, e2, e3, e7, e13, e14, e15, b3, b9, hk⟩
    by_cases hz : (i : Int) < c.2.length
    · obtain ⟨x, hx⟩ := get_some (l := c.2) (i := i) (by omega)
      have h0 : (0 : Int) ≤ i := by omega
      have hwi : IntKind.wrap .i64 ((i : Int) + 1) = i + 1 := i64_in _ (by omega)
      obtain ⟨⟨g1, g2⟩, g3⟩ := chs_at hc (List.mem_of_getElem? hx)
      obtain ⟨x1, x2⟩ := x
      simp only at g1 g2 g3
      obtain ⟨m, rfl⟩ : ∃ m : Nat, x1 = m := ⟨x1.toNat, by omega⟩
      simp only [go_sem, pl112, e2, e3, e7, e13, e14, e15, b3, b9, hz, h0, hx]
      refine c_value (w := w) (vars := v) (t := x2) (s := s) (by omega) hs hsw ?_
      have hm : (m : Int) < v := g2
      have hm0 : (0 : Int) ≤ (m : Int) := by omega
      simp only [go_sem, pl112, e2, e3, e7, e13, e14, e15, b3, b9, hz, h0, hx, hwi, hm, hm0]
      have hlen : (stepTo w s (c.2.take i) s).length = v := by rw [stepTo_len]; exact hs
      refine ⟨by omega, k - 1, by omega, i + 1, v3, sv, rfl, rfl, rfl, rfl, ?_, by omega⟩
      rw [take_one hx, stepTo_app]
      simp only [Int.toNat_natCast]
      rw [List.map_set]
    · simp only [go_sem, pl112, e2, e3, e7, e13, e14, e15, b3, b9, hz]
      rw [List.take_of_length_le (by omega)]
      exact ⟨sv, rfl, rfl⟩
end Go.Proofs.YteegphdelekdaaaGreat

set_option linter.unusedVariables false
set_option linter.unusedSimpArgs false
namespace Go.Proofs.YteegphdelekdaaaGreat
open Go.Abs Go.IntWalk
set_option maxRecDepth 100000
attribute [local go_sem] eI eU eNs eN cN eChs eCh cCh eCos eCo cCo eP take_map
theorem c_l7Do {p : PProg} {c : PCommand} {s : List Nat} {w v n : Nat} (hp : p.1 = w) (hn : p.2.2.2[n]? = some c) (hc : chsOk w v (-1) c.2) (hcl : c.2.length ≤ 1000) (hs : s.length = v) (hv : 1 ≤ v) (hv4 : v ≤ 4) (hsw : ∀ x ∈ s, x < 2 ^ w) {H : Heap} {K : AV → Heap → Prop} (hK : K (eU (stepTo w s c.2 s)) H) : ACall Tryz.prog 107 [eP p, eU s, I64 n] H K := by
  refine ACall.pure (R := fun r H' => ∃ ver, r = .ref 10 ver 0 v ∧ H' 10 = .cells ver 73 1 ((stepTo w s c.2 s).map U64)) rfl ?_ fun r H' h => by obtain ⟨ver, rfl, h⟩ := h; exact ⟨_, resU (by rw [stepTo_len]; exact hs.symm) rfl h, rfl, hK⟩
  refine call107 (by simp) ?_
  simp only [Tryz.results107, Tryz.ntmps107, Tryz.f107, Option.getD_some, pl107]
  have hf := flat1 U64 (fun _ => rfl) s
  have hsc : (s.map U64).all AV.scalar = true := sc_map (fun _ => rfl) s
  have hn0 : (0 : Int) ≤ n := by omega
  simp only [go_sem, hp, hf, hsc, hn, hn0]
  refine ⟨by omega, ?_⟩
  refine ALoop.intro (pl := pl107) (fun k env H => ∃ (i v3 sv : Nat), env 1 = eU s ∧ env 3 = .ptr 3 v3 0 ∧ env 7 = .ref 10 sv 0 v ∧ env 18 = eChs c.2 ∧ env 19 = I64 c.2.length ∧ env 20 = I64 i ∧ H 3 = .cells v3 36 1 [I64 w, I64 p.2.1, eNs p.2.2.1, eCos p.2.2.2] ∧ H 10 = .cells sv 73 1 ((stepTo w s (c.2.take i) s).map U64) ∧ i + k = c.2.length) c.2.length (by kernel_rfl) ?_ ?_
  · simp only [go_sem]
    exact ⟨0, _, _, rfl, by rw [hs], rfl, rfl, rfl, by omega⟩
  · rintro k env H ⟨i, v3, sv, e1, e3, e7, e18, e19, e20, b3, b9, hk⟩
    by_cases hz : (i : Int) < c.2.length
    · obtain ⟨x, hx⟩ := get_some (l := c.2) (i := i) (by omega)
      have h0 : (0 : Int) ≤ i := by omega
      have hwi : IntKind.wrap .i64 ((i : Int) + 1) = i + 1 := i64_in _ (by omega)
      obtain ⟨⟨g1, g2⟩, g3⟩ := chs_at hc (List.mem_of_getElem? hx)
      obtain ⟨x1, x2⟩ := x
      simp only at g1 g2 g3
      obtain ⟨m, rfl⟩ : ∃ m : Nat, x1 = m := ⟨x1.toNat, by omega⟩
      have hkc := kind_conds (show kindT (w : Int) (v : Int) x2 ≠ 0 by omega)
      have hwl : IntKind.wrap .i64 ((x2.length : Int) - 1) = x2.length - 1 := i64_in _ (by omega)
      simp only [go_sem, pl107, e1, e3, e7, e18, e19, e20, b3, b9, hz, h0, hx, hwl]
      refine c_valueS (w := w) (vars := v) (t := x2) (s := s) (by omega) hs hsw ?_
      have hm : (m : Int) < v := g2
      have hm0 : (0 : Int) ≤ (m : Int) := by omega
      simp only [go_sem, pl107, e1, e3, e7, e18, e19, e20, b3, b9, hz, h0, hx, hwi, hm, hm0]
      have hlen : (stepTo w s (c.2.take i) s).length = v := by rw [stepTo_len]; exact hs
      refine ⟨by omega, k - 1, by omega, i + 1, v3, sv, rfl, rfl, rfl, rfl, ?_, by omega⟩
      rw [take_one hx, stepTo_app]
      simp only [Int.toNat_natCast]
      rw [List.map_set]
    · simp only [go_sem, pl107, e1, e3, e7, e18, e19, e20, b3, b9, hz]
      rw [List.take_of_length_le (by omega)]
      exact ⟨sv, rfl, rfl⟩
end Go.Proofs.YteegphdelekdaaaGreat

set_option linter.unusedVariables false
set_option linter.unusedSimpArgs false
namespace Go.Proofs.YteegphdelekdaaaGreat
open Go.Abs Go.IntWalk
set_option maxRecDepth 100000
attribute [local go_sem] eI eU eNs eN cN eChs eCh cCh eCos eCo cCo eP take_map
/-- The step by a command: what comes back, and whether there is one. -/
def stepOk (p : PProg) (s : List Nat) (k : Int) : Prop := stateOk p s ∧ 0 ≤ k ∧ ∃ c, p.2.2.2[k.toNat]? = some c ∧ evalT p.1.toNat c.1 s = 1
theorem mem_enab {w n : Nat} {cmds : List PCommand} {s : List Nat} {k : Int} (hn : n = cmds.length) : k ∈ enab w cmds s n ↔ 0 ≤ k ∧ ∃ c, cmds[k.toNat]? = some c ∧ evalT w c.1 s = 1 := by
  subst hn
  unfold enab
  simp only [List.mem_map, List.mem_filter, List.mem_range]
  constructor
  · rintro ⟨j, ⟨h1, h2⟩, rfl⟩
    obtain ⟨c, hc⟩ := get_some (l := cmds) (i := j) h1
    rw [hc] at h2
    simp at h2
    exact ⟨by omega, c, by rw [Int.toNat_natCast]; exact hc, h2⟩
  · rintro ⟨h0, c, hc, he⟩
    refine ⟨k.toNat, ⟨(List.getElem?_eq_some_iff.1 hc).1, ?_⟩, by omega⟩
    rw [hc]; simp [he]
theorem mem_enabled {p : PProg} {s : List Nat} {k : Int} : k ∈ enabledOf p s ↔ stepOk p s k := by
  unfold enabledOf stepOk
  by_cases h : stateOk p s
  · rw [if_pos h, mem_enab rfl]
    exact ⟨fun h2 => ⟨h, h2⟩, fun h2 => h2.2⟩
  · rw [if_neg h]
    exact ⟨fun h2 => by simp at h2, fun h2 => absurd h2.1 h⟩
instance (p : PProg) (s : List Nat) (k : Int) : Decidable (stepOk p s k) := decidable_of_iff _ mem_enabled
def stepOf (p : PProg) (s : List Nat) (k : Int) : List Nat := if stepOk p s k then stepTo p.1.toNat s ((p.2.2.2[k.toNat]?).getD ([], [])).2 s else []
theorem c_stepByS {p : PProg} {s : List Nat} {k : Int} (hw : wfP p) (hsm : smProgram p) (hs : wfU s) (hl : s.length ≤ 1000000000) {H : Heap} {K : AV → Heap → Prop} (hK : K (.tup [eU (stepOf p s k), .bool (decide (stepOk p s k))]) H) : ACall Tryz.prog 53 [eP p, eU s, I64 k] H K := by
  refine ACall.pure (R := fun r _ => (stepOk p s k ∧ r = .tup [eU (stepOf p s k), .bool true]) ∨ (¬ stepOk p s k ∧ r = .tup [.nil, .bool false])) rfl ?_ ?_
  · refine call53 (by simp) ?_
    simp only [Tryz.results53, Tryz.ntmps53, Tryz.f53, Option.getD_some, pl53]
    simp only [go_sem]
    refine c_enabledS (p := p) hw hsm hs hl ?_
    have hsl := enabled_len (p := p) (s := s)
    by_cases h : stateOk p s
    · simp only [go_sem, h]
      refine c_has (l := enabledOf p s) (x := k) (by omega) ?_
      by_cases h2 : k ∈ enabledOf p s
      · have hst := mem_enabled.1 h2
        obtain ⟨w, v, e1, e2, g1, g2, g3, g4, h5, h6⟩ := state_conds h
        obtain ⟨c, hc, he⟩ := hst.2.2
        have hk0 := hst.2.1
        obtain ⟨n, rfl⟩ : ∃ n : Nat, k = n := ⟨k.toNat, by omega⟩
        rw [Int.toNat_natCast] at hc
        have hok := h.1.2.2 c (List.mem_of_getElem? hc)
        simp only [go_sem, h2]
        refine c_l7Do (p := p) (c := c) (s := s) (w := w) (v := v) (n := n) e1 hc (by rw [← e1, ← e2]; exact hok.2) ?_ h5 g3 g4 h6 ?_
        · have := fun e => chs_len hok.2 e
          by_cases e : c.2 = []
          · rw [e]; simp
          · have := this e; omega
        simp only [go_sem]
        exact .inl ⟨hst, by unfold stepOf; rw [if_pos hst, Int.toNat_natCast, hc, e1, Int.toNat_natCast]; rfl⟩
      · simp only [go_sem, h2]
        have h3 : ¬ stepOk p s k := fun e => h2 (mem_enabled.2 e)
        first | exact .inr ⟨h3, rfl⟩ | exact .inr h3
    · simp only [go_sem, h]
      have h3 : ¬ stepOk p s k := fun e => h e.1
      first | exact .inr ⟨h3, rfl⟩ | exact .inr h3
  · rintro r H' (⟨h, rfl⟩ | ⟨h, rfl⟩)
    · rw [decide_eq_true h] at hK
      exact ⟨_, .cl rfl, rfl, hK⟩
    · have hn : stepOf p s k = [] := by unfold stepOf; rw [if_neg h]
      rw [decide_eq_false h, hn] at hK
      exact ⟨_, .tup2 (.frz _ _ (.nil 1)) (.cl rfl), rfl, hK⟩
end Go.Proofs.YteegphdelekdaaaGreat

set_option linter.unusedVariables false
set_option linter.unusedSimpArgs false
namespace Go.Proofs.YteegphdelekdaaaGreat
open Go.Abs Go.IntWalk
set_option maxRecDepth 100000
attribute [local go_sem] eI eU eNs eN cN eChs eCh cCh eCos eCo cCo eP take_map
theorem o_after {p : PProg} {c : PCommand} {s : List Nat} {w v : Nat} (e : Nat) (he : 1000000 ≤ e) (hp : p.1 = w) (hc : chsOk w v (-1) c.2) (hcl : c.2.length ≤ 1000) (hs : s.length = v) (hv : 1 ≤ v) (hv4 : v ≤ 4) (hsw : ∀ x ∈ s, x < 2 ^ w) {H : Heap} {K : AV → Heap → Prop} (hg : ∃ v0, H e = .gone v0)
    (hK : ∀ ver, K (.ref e ver 0 v) (upd H e (.cells ver 73 1 ((stepTo w s c.2 s).map U64)))) : ACall Tryz.prog 112 [eP p, eCo c, eU s] H K := by
  obtain ⟨v0, hg⟩ := hg
  exact ACall.own1 e hg rfl (cll_map fun _ => rfl) (k_after hp hc hcl hs hv hv4 hsw ⟨v0, rfl⟩) hK
theorem c_noCmd {p : PProg} {k : Int} (hl : p.2.2.2.length ≤ 1048576) {H : Heap} {K : AV → Heap → Prop} (hK : K (.bool (decide (0 ≤ k ∧ k < p.2.2.2.length))) H) : ACall Tryz.prog 111 [eP p, I64 k] H K := by
  refine pureC rfl rfl ?_ hK
  refine call111 (by simp) ?_
  simp only [Tryz.results111, Tryz.ntmps111, Tryz.f111, Option.getD_some, pl111]
  by_cases h : 0 ≤ k
  · simp only [go_sem, h]
  · simp only [go_sem, h]
    exact bF fun e => e.1
theorem k_stepByI {p : PProg} {s : List Nat} {k : Int} (hw : wfP p) (hsm : smProgram p) (hs : wfU s) (hl : s.length ≤ 1000000000) {H : Heap} (hg : ∃ v0, H 1000000 = .gone v0) : ACall Tryz.prog 56 [eP p, eU s, I64 k] H fun r H' =>
    (stepOk p s k ∧ ∃ ver, r = .tup [.ref 1000000 ver 0 s.length, .bool true] ∧ H' 1000000 = .cells ver 73 1 ((stepOf p s k).map U64)) ∨ (¬ stepOk p s k ∧ r = .tup [.nil, .bool false] ∧ H' 1000000 = H 1000000) := by
  refine call56 (by simp) ?_
  simp only [Tryz.results56, Tryz.ntmps56, Tryz.f56, Option.getD_some, pl56]
  simp only [go_sem]
  refine c_isStateOf (p := p) hw hsm hs hl ?_
  have hcs : p.2.2.2.length ≤ 1048576 := hsm.2.1
  by_cases h : stateOk p s
  · obtain ⟨w, v, e1, e2, g1, g2, g3, g4, h5, h6⟩ := state_conds h
    simp only [go_sem, h]
    refine c_noCmd (p := p) (k := k) hcs ?_
    by_cases h2 : 0 ≤ k ∧ k < p.2.2.2.length
    · obtain ⟨n, rfl⟩ : ∃ n : Nat, k = n := ⟨k.toNat, by omega⟩
      obtain ⟨c, hc⟩ := get_some (l := p.2.2.2) (i := n) (by omega)
      have hok := h.1.2.2 c (List.mem_of_getElem? hc)
      have hn0 : (0 : Int) ≤ n := by omega
      have hn1 : (n : Int) < p.2.2.2.length := h2.2
      simp only [go_sem, hn0, hn1, hc]
      refine c_holdsI (p := p) (w := w) (vars := v) (t := c.1) (s := s) e1 (by rw [← e1, ← e2, hok.1]; omega) h5 h6 ?_
      by_cases hh : evalT w c.1 s = 1
      · have hst : stepOk p s (n : Int) := ⟨h, hn0, c, by rw [Int.toNat_natCast]; exact hc, by rw [e1, Int.toNat_natCast]; exact hh⟩
        simp only [go_sem, hh, hn0, hn1, hc]
        obtain ⟨v0, hg⟩ := hg
        have hcl : c.2.length ≤ 1000 := by
          have := fun e => chs_len hok.2 e
          by_cases e : c.2 = []
          · rw [e]; simp
          · have := this e; omega
        refine o_after (p := p) (c := c) (s := s) 1000000 (by omega) e1 (by rw [← e1, ← e2]; exact hok.2) hcl h5 g3 g4 h6 ⟨v0, by simp only [go_sem]; exact hg⟩ fun ver => ?_
        simp only [go_sem]
        have es : stepOf p s (n : Int) = stepTo w s c.2 s := by unfold stepOf; rw [if_pos hst, Int.toNat_natCast, hc, e1, Int.toNat_natCast]; rfl
        exact .inl ⟨hst, ver, by rw [h5], by rw [es]⟩
      · have hst : ¬ stepOk p s (n : Int) := fun e => by
          obtain ⟨_, _, c', hc', he⟩ := e
          rw [Int.toNat_natCast, hc] at hc'
          cases hc'
          rw [e1, Int.toNat_natCast] at he
          exact hh he
        simp only [go_sem, hh]
        exact .inr hst
    · have hst : ¬ stepOk p s k := fun e => h2 ⟨e.2.1, by
        obtain ⟨_, h0, c', hc', _⟩ := e
        have := (List.getElem?_eq_some_iff.1 hc').1
        omega⟩
      simp only [go_sem, h2]
      exact .inr hst
  · have hst : ¬ stepOk p s k := fun e => h e.1
    simp only [go_sem, h]
    exact .inr hst
end Go.Proofs.YteegphdelekdaaaGreat

set_option linter.unusedVariables false
set_option linter.unusedSimpArgs false
namespace Go.Proofs.YteegphdelekdaaaGreat
open Go.Abs Go.IntWalk
set_option maxRecDepth 100000
attribute [local go_sem] eI eU eNs eN cN eChs eCh cCh eCos eCo cCo eP take_map
theorem step_no {p : PProg} {s : List Nat} {k : Int} (h : ¬ stepOk p s k) : stepOf p s k = [] := by unfold stepOf; rw [if_neg h]
theorem step_len {p : PProg} {s : List Nat} {k : Int} (h : stepOk p s k) : (stepOf p s k).length = s.length := by unfold stepOf; rw [if_pos h, stepTo_len]
theorem step_len4 {p : PProg} {s : List Nat} {k : Int} : (stepOf p s k).length ≤ 4 := by
  by_cases h : stepOk p s k
  · rw [step_len h]
    obtain ⟨w, v, _, _, _, _, _, h4, h5, _⟩ := state_conds h.1
    omega
  · rw [step_no h]; simp
theorem c_stepByI {p : PProg} {s : List Nat} {k : Int} (hw : wfP p) (hsm : smProgram p) (hs : wfU s) (hl : s.length ≤ 1000000000) {H : Heap} {K : AV → Heap → Prop} (hK : K (.tup [eU (stepOf p s k), .bool (decide (stepOk p s k))]) H) : ACall Tryz.prog 56 [eP p, eU s, I64 k] H K := by
  refine ACall.pure rfl (k_stepByI hw hsm hs hl ⟨0, rfl⟩) ?_
  rintro r H' (⟨h, ver, rfl, h1⟩ | ⟨h, rfl, _⟩)
  · rw [decide_eq_true h] at hK
    exact ⟨_, .tup2 (resU (step_len h).symm rfl h1) (.cl rfl), rfl, hK⟩
  · rw [decide_eq_false h, step_no h] at hK
    exact ⟨_, .tup2 (.frz _ _ (.nil 1)) (.cl rfl), rfl, hK⟩
/-- StepBy on things that are lent; what comes back is ours, under the name e. -/
theorem m_stepByI {p : PProg} {s : List Nat} {k : Int} {d e f ver0 T : Nat} {A : List AV} (hw : wfP p) (hsm : smProgram p) (hs : wfU s) (hl : s.length ≤ 1000000000) {H H1 : Heap} {K : AV → Heap → Prop} (hA : oP d H1 p = A) (ha : atP d H1 p) (hcg : ∀ i, d ≤ i → H i = H1 i) (he : e < d) (hf : H f = .cells ver0 T 1 (s.map U64)) (hef : f ≠ e) (he0 : 1000000 ≤ e) (hg : ∃ v0, H e = .gone v0)
    (h1 : stepOk p s k → ∀ ver, K (.tup [.ref e ver 0 s.length, .bool true]) (upd H e (.cells ver 73 1 ((stepOf p s k).map U64)))) (h2 : ¬ stepOk p s k → K (.tup [.nil, .bool false]) H) : ACall Tryz.prog 56 [.agg A, .ref f ver0 0 s.length, I64 k] H K := by
  have e1 : oP d H p = oP d H1 p := oP_congr fun i h _ => hcg i h
  rw [← hA, ← e1]
  have ha : atP d H p := atP_congr (fun i h _ => hcg i h) ha
  obtain ⟨v0, hg⟩ := hg
  refine ACall.handL [e] [.gone v0] (by simp) ⟨by rw [hg]; rfl, trivial⟩ (by simp [Blk.inB]) (args' := [eP p, eU s, I64 k]) (.cons _ _ _ _ (.frz _ _ (fr_p ha fun i h3 h4 => ?_)) (.cons _ _ _ _ (.frz _ _ (frU ?_ hf)) (.cons _ _ _ _ (.cl rfl) .nil)))
    (k_stepByI (k := k) hw hsm hs hl ⟨v0, rfl⟩) ?_
  · simp; omega
  · simp; exact hef
  · rintro r H' (⟨hst, ver, rfl, h⟩ | ⟨hst, rfl, h⟩)
    · refine ⟨[.cells ver 73 1 ((stepOf p s k).map U64)], ⟨h, trivial⟩, rfl, ?_, rfl, ?_⟩
      · simp only [List.all_cons, List.all_nil, Bool.and_true, Blk.inB]
        exact within_plainM (fun _ => rfl) _
      · have := h1 hst ver
        simp only [lays, Blk.ren, renL_closed _ _ (cll_map (f := U64) (l := stepOf p s k) fun _ => rfl)]
        exact this
    · refine ⟨[.gone v0], ⟨by rw [h]; rfl, trivial⟩, rfl, by simp [Blk.inB], rfl, ?_⟩
      simp only [lays, Blk.ren]
      have := h2 hst
      have e0 : rhoL [e] 1000000 = e := rfl
      rw [show upd H e (.gone v0) = H from by rw [← hg, upd_self]]
      exact this
end Go.Proofs.YteegphdelekdaaaGreat

set_option linter.unusedVariables false
set_option linter.unusedSimpArgs false
namespace Go.Proofs.YteegphdelekdaaaGreat
open Go.Abs Go.IntWalk
set_option maxRecDepth 100000
attribute [local go_sem] eI eU eNs eN cN eChs eCh cCh eCos eCo cCo eP take_map
theorem frUl {l : List Nat} {n : Nat} (hn : l.length = n) {H : Heap} {id ver T : Nat} {β : Nat → Bool} (hb : β id = true) (h : H id = .cells ver T 1 (l.map U64)) : FRes H β anyAV (.ref id ver 0 n) (eU l) := by subst hn; exact frU hb h
theorem frCu {k : Int} {n : Nat} {H : Heap} {id ver T : Nat} {β : Nat → Bool} (hb : β id = true) (h : H id = .cells ver T 1 ((cnt k n).map uV)) : FRes H β anyAV (.ref id ver 0 n) (.sl 1 ((cnt k n).map uV)) := FRes.map1 (f := uV) (fun _ => rfl) (fun _ => rfl) cnt_len.symm hb h
theorem l_heldUint64S {n : Nat} {k : Int} {x : AV} {H : Heap} {K : AV → Heap → Prop} (hx : FRes H (fun _ => true) anyAV x (.sl 1 ((cnt k n).map uV))) (hn : n ≤ 1000000000) (hk0 : 0 ≤ k) (hk : k ≤ 1000000) (hK : K (I64 (k + n)) H) : ACall Tryz.prog 61 [x, I64 k] H K :=
  ACall.peek (R := fun r _ => r = I64 (k + n)) (c_heldUint64S hn hk0 hk rfl) (.cons _ _ _ _ (.frz _ _ hx) (.cons _ _ _ _ (.cl rfl) .nil)) fun r H' h => by subst h; exact ⟨rfl, hK⟩
theorem n_markUint64S {k : Int} {H : Heap} {K : AV → Heap → Prop} (hK : K (I64 k) H) : ACall Tryz.prog 24 [.nil, I64 k] H K := by
  refine ACall.pure (R := fun r _ => r = I64 k) rfl ?_ fun r H' h => by subst h; exact ⟨_, .cl rfl, rfl, hK⟩
  refine call24 (by simp) ?_
  simp only [Tryz.results24, Tryz.ntmps24, Tryz.f24, Option.getD_some, pl24]
  simp only [go_sem]
  refine ALoop.intro (pl := pl24) (fun q env H => env 0 = .nil ∧ env 1 = I64 k ∧ env 5 = I64 0) 0 (by kernel_rfl) ?_ ?_
  · simp only [go_sem]
  · rintro q env H ⟨e0, e1, e5⟩
    simp only [go_sem, e0, e1, e5]
end Go.Proofs.YteegphdelekdaaaGreat
