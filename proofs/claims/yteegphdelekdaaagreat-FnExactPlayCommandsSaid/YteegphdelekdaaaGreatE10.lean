/- Texts of ours, joined: YteegphdelekdaaaGreatH50 YteegphdelekdaaaGreatH51 YteegphdelekdaaaGreatH52 YteegphdelekdaaaGreatH53 YteegphdelekdaaaGreatH54. -/
import Derived.Test.YteegphdelekdaaaGreatE9
set_option linter.unusedVariables false
set_option linter.unusedSimpArgs false
namespace Go.Proofs.YteegphdelekdaaaGreat
open Go.Abs Go.IntWalk
set_option maxRecDepth 100000
attribute [local go_sem] eI eU eNs eN cN eChs eCh cCh eCos eCo cCo eP take_map eII
/-! slices.IndexFunc, ContainsFunc, Index, Contains at []int: run in the heap as it stands. -/
theorem i_idxF {g : FuncId} {caps : List AV} {l : List Int} {P : Int → Prop} [DecidablePred P] {H : Heap} {K : AV → Heap → Prop} (hl : l.length ≤ 1000000000)
    (hcl : ∀ x ∈ l, ∀ K : AV → Heap → Prop, K (.bool (decide (P x))) H → ACall Tryz.prog g (I64 x :: caps) H K)
    (h1 : ∀ (i : Nat) x, l[i]? = some x → P x → (∀ y ∈ l.take i, ¬ P y) → K (I64 i) H) (h2 : (∀ x ∈ l, ¬ P x) → K (I64 (-1)) H) : ACall Tryz.prog 120 [eI l, .fn g caps] H K := by
  refine call120 (by simp) ?_
  simp only [Tryz.results120, Tryz.ntmps120, Tryz.f120, Option.getD_some, pl120]
  simp only [go_sem]
  refine ALoop.intro (pl := pl120) (fun k env H' => ∃ i : Nat, H' = H ∧ env 0 = eI l ∧ env 1 = .fn g caps ∧ env 7 = I64 l.length ∧ env 8 = I64 i ∧ i + k = l.length ∧ ∀ x ∈ l.take i, ¬ P x) l.length (by kernel_rfl) ?_ ?_
  · simp only [go_sem]
    exact ⟨0, by simp⟩
  · rintro k env H' ⟨i, rfl, e0, e1, e7, e8, hk, ht⟩
    by_cases hz : (i : Int) < l.length
    · obtain ⟨x, hx⟩ := get_some (l := l) (i := i) (by omega)
      have hw : IntKind.wrap .i64 ((i : Int) + 1) = i + 1 := i64_in _ (by omega)
      have h0 : (0 : Int) ≤ i := by omega
      simp only [go_sem, e0, e1, e7, e8, hz, hx, h0]
      refine hcl x (List.mem_of_getElem? hx) _ ?_
      by_cases hp : P x
      · simp only [go_sem, hp]
        exact h1 i x hx hp ht
      · simp only [go_sem, e0, e1, e7, e8, hp, hw]
        refine ⟨k - 1, by omega, i + 1, rfl, by omega, ?_⟩
        intro y hy
        rw [take_one hx] at hy
        rcases List.mem_append.1 hy with hy | hy
        · exact ht y hy
        · rw [List.mem_singleton.1 hy]; exact hp
    · simp only [go_sem, e7, e8, hz]
      rw [List.take_of_length_le (by omega)] at ht
      exact h2 ht
theorem i_contF {g : FuncId} {caps : List AV} {l : List Int} {P : Int → Prop} [DecidablePred P] {H : Heap} {K : AV → Heap → Prop} (hl : l.length ≤ 1000000000)
    (hcl : ∀ x ∈ l, ∀ K : AV → Heap → Prop, K (.bool (decide (P x))) H → ACall Tryz.prog g (I64 x :: caps) H K)
    (h1 : (∃ x, x ∈ l ∧ P x) → K (.bool true) H) (h2 : (∀ x ∈ l, ¬ P x) → K (.bool false) H) : ACall Tryz.prog 72 [eI l, .fn g caps] H K := by
  refine call72 (by simp) ?_
  simp only [Tryz.results72, Tryz.ntmps72, Tryz.f72, Option.getD_some, pl72]
  simp only [go_sem]
  refine i_idxF (l := l) (P := P) hl hcl (fun i x hx hp _ => ?_) fun hno => ?_
  · have h0 : (0 : Int) ≤ i := by omega
    simp only [go_sem, h0]
    exact h1 ⟨x, List.mem_of_getElem? hx, hp⟩
  · simp only [go_sem]
    exact h2 hno
theorem c_idx {l : List Int} {x : Int} (hl : l.length ≤ 1000000000) {H : Heap} {K : AV → Heap → Prop} (h1 : ∀ i : Nat, x ∈ l → K (I64 i) H) (h2 : ¬ x ∈ l → K (I64 (-1)) H) : ACall Tryz.prog 121 [eI l, I64 x] H K := by
  refine call121 (by simp) ?_
  simp only [Tryz.results121, Tryz.ntmps121, Tryz.f121, Option.getD_some, pl121]
  simp only [go_sem]
  refine ALoop.intro (pl := pl121) (fun k env H' => ∃ i : Nat, H' = H ∧ env 0 = eI l ∧ env 1 = I64 x ∧ env 7 = I64 l.length ∧ env 8 = I64 i ∧ i + k = l.length ∧ ¬ x ∈ l.take i) l.length (by kernel_rfl) ?_ ?_
  · simp only [go_sem]
    exact ⟨0, by simp⟩
  · rintro k env H' ⟨i, rfl, e0, e1, e7, e8, hk, ht⟩
    by_cases hz : (i : Int) < l.length
    · obtain ⟨y, hy⟩ := get_some (l := l) (i := i) (by omega)
      have hw : IntKind.wrap .i64 ((i : Int) + 1) = i + 1 := i64_in _ (by omega)
      have h0 : (0 : Int) ≤ i := by omega
      by_cases hp : x = y
      · simp only [go_sem, pl121, e0, e1, e7, e8, hz, hy, h0, ← hp]
        exact h1 i (by rw [hp]; exact List.mem_of_getElem? hy)
      · simp only [go_sem, pl121, e0, e1, e7, e8, hz, hy, h0, hp, hw]
        refine ⟨k - 1, by omega, i + 1, rfl, by omega, ?_⟩
        rw [take_one hy, List.mem_append, List.mem_singleton]
        exact fun h => h.elim ht hp
    · simp only [go_sem, pl121, e7, e8, hz]
      rw [List.take_of_length_le (by omega)] at ht
      exact h2 ht
theorem c_cont {l : List Int} {x : Int} (hl : l.length ≤ 1000000000) {H : Heap} {K : AV → Heap → Prop} (hK : K (.bool (decide (x ∈ l))) H) : ACall Tryz.prog 74 [eI l, I64 x] H K := by
  refine call74 (by simp) ?_
  simp only [Tryz.results74, Tryz.ntmps74, Tryz.f74, Option.getD_some, pl74]
  simp only [go_sem]
  refine c_idx (l := l) (x := x) hl (fun i h => ?_) fun h => ?_
  · have h0 : (0 : Int) ≤ i := by omega
    simp only [go_sem, h0]
    rw [decide_eq_true h] at hK; exact hK
  · simp only [go_sem]
    rw [decide_eq_false h] at hK; exact hK
end Go.Proofs.YteegphdelekdaaaGreat

set_option linter.unusedVariables false
set_option linter.unusedSimpArgs false
namespace Go.Proofs.YteegphdelekdaaaGreat
open Go.Abs Go.IntWalk
set_option maxRecDepth 100000
attribute [local go_sem] eI eU eNs eN cN eChs eCh cCh eCos eCo cCo eP take_map eII
theorem reach_ex {g : List (List Int)} (hg : okG g) {ss : List Int} (hi : inc ss) (hs : ∀ x ∈ ss, inN g.length x) : ∃ R, isReach g ss R := by
  have key : ∀ m, (∃ k, (lv g ss (k + 1)).length = (lv g ss k).length) ∨ m ≤ (lv g ss m).length := by
    intro m
    induction m with
    | zero => exact .inr (Nat.zero_le _)
    | succ m ih =>
      rcases ih with h | h
      · exact .inl h
      · have h2 := lv_grow (g := g) hi m
        by_cases e : (lv g ss (m + 1)).length = (lv g ss m).length
        · exact .inl ⟨m, e⟩
        · exact .inr (by omega)
  rcases key (g.length + 1) with ⟨k, hk⟩ | h
  · exact ⟨lv g ss k, inc_lv hi k, fun x => by rw [mem_lv]; exact ⟨fun h => ⟨k, h⟩, fun ⟨m, hm⟩ => lv_stop hi hk m x hm⟩⟩
  · have := lv_len hg hi hs (g.length + 1)
    omega
theorem mem_reach {g : List (List Int)} (hg : okG g) {ss : List Int} (hi : inc ss) (hs : ∀ x ∈ ss, inN g.length x) {x : Int} : x ∈ reachL g ss ↔ ∃ k, Wk g ss k x := by
  obtain ⟨R, hR⟩ := reach_ex hg hi hs
  rw [← reach_eq hR]; exact hR.2 x
theorem inc_reach {g : List (List Int)} (hg : okG g) {ss : List Int} (hi : inc ss) (hs : ∀ x ∈ ss, inN g.length x) : inc (reachL g ss) := by
  obtain ⟨R, hR⟩ := reach_ex hg hi hs
  rw [← reach_eq hR]; exact hR.1
theorem reach_in {g : List (List Int)} (hg : okG g) {ss : List Int} (hi : inc ss) (hs : ∀ x ∈ ss, inN g.length x) : ∀ x ∈ reachL g ss, inN g.length x := fun x hx => by
  obtain ⟨k, hk⟩ := (mem_reach hg hi hs).1 hx
  exact Wk_in hg hs hk
theorem reach_len {g : List (List Int)} (hg : okG g) {ss : List Int} (hi : inc ss) (hs : ∀ x ∈ ss, inN g.length x) : (reachL g ss).length ≤ g.length := inc_len (inc_reach hg hi hs) (reach_in hg hi hs)
theorem reachP_in {p : PProg} {w v : Nat} (h : Sm p w v) : ∀ x ∈ reachP p w v, inN (2 ^ (w * v)) x := by
  have := reach_in (gOf_ok h.ok) (ss := those w v p.2.2.1 (2 ^ (w * v))) inc_those (fun x hx => by rw [gOf_len]; exact those_in x hx)
  rw [gOf_len] at this; exact this
theorem reachP_len {p : PProg} {w v : Nat} (h : Sm p w v) : (reachP p w v).length ≤ 32 := by
  have := reach_len (gOf_ok h.ok) (ss := those w v p.2.2.1 (2 ^ (w * v))) inc_those (fun x hx => by rw [gOf_len]; exact those_in x hx)
  rw [gOf_len] at this
  have := h.n32
  unfold reachP; omega
noncomputable def alwaysB (p : PProg) (t : List PNode) (w v : Nat) : Bool := decide (∀ x ∈ reachP p w v, evalT w t (stOf w v x.toNat) = 1)
theorem sm_eq {p : PProg} {w v : Nat} (h : Sm p w v) : p.1.toNat = w ∧ p.2.1.toNat = v := by rw [h.e1, h.e2]; omega
def condP (p : PProg) (t : List PNode) : Prop := smallP p ∧ kindT p.1 p.2.1 t = 2
instance (p : PProg) (t : List PNode) : Decidable (condP p t) := by unfold condP; infer_instance
noncomputable def alwaysOf (p : PProg) (t : List PNode) : Bool × Bool := if condP p t then (alwaysB p t p.1.toNat p.2.1.toNat, true) else (false, false)
theorem c_alwaysCl {p : PProg} {t : List PNode} {w v : Nat} {x : Int} {i2 v2 i3 v3 : Nat} (h : Sm p w v) (hk : kindT (w : Int) (v : Int) t = 2) (hx : inN (2 ^ (w * v)) x) {H : Heap} {K : AV → Heap → Prop}
    (h2 : H i2 = .cells v2 36 1 [I64 p.1, I64 p.2.1, eNs p.2.2.1, eCos p.2.2.2]) (h3 : H i3 = .cells v3 33 1 [eNs t]) (hK : K (.bool (decide (¬ evalT w t (stOf w v x.toNat) = 1))) H) : ACall Tryz.prog 85 [I64 x, .ptr i2 v2 0, .ptr i3 v3 0] H K := by
  have hn32 := h.n32
  obtain ⟨n, rfl⟩ : ∃ n : Nat, x = n := ⟨x.toNat, by have := hx.1; omega⟩
  have hn : n < 2 ^ (w * v) := by have := hx.2; omega
  rw [Int.toNat_natCast] at hK
  refine call85 (by simp) ?_
  simp only [Tryz.results85, Tryz.ntmps85, Tryz.f85, Option.getD_some, pl85]
  simp only [go_sem, h2, h3]
  refine c_stI (p := p) (w := w) (v := v) (no := n) h.e1 h.e2 h.w1 (by have := h.w5; omega) h.v4 h.wv (by omega) ?_
  simp only [go_sem, h2, h3]
  refine c_holdsI (p := p) (w := w) (vars := v) (t := t) h.e1 (by rw [hk]; omega) (stOf_len _ _ _) stOf_lt ?_
  simp only [go_sem, h2, h3]
  rw [decide_not] at hK
  exact hK
theorem c_alwaysI {p : PProg} {t : List PNode} (hw : wfP p) (hsm : smProgram p) (ht : wfT t) (hl : t.length ≤ 1000000000) {H : Heap} {K : AV → Heap → Prop} (hK : K (.tup [.bool (alwaysOf p t).1, .bool (alwaysOf p t).2]) H) : ACall Tryz.prog 38 [eP p, eNs t] H K := by
  refine pureC rfl rfl ?_ hK
  refine call38 (by simp) ?_
  simp only [Tryz.results38, Tryz.ntmps38, Tryz.f38, Option.getD_some, pl38]
  simp only [go_sem]
  refine c_smallI (p := p) hw hsm ?_
  by_cases hs : smallP p
  · obtain ⟨w, v, h⟩ := sm_of hs
    simp only [go_sem, hs]
    refine c_condI (p := p) ht hl ?_
    by_cases hk : kindT p.1 p.2.1 t = 2
    · have hk2 := hk
      rw [h.e1, h.e2] at hk2
      have hrl := reachP_len h
      simp only [go_sem, hk]
      refine c_reachI (p := p) h ?_
      delta eI
      simp only [go_sem]
      refine i_contF (l := reachP p w v) (P := fun x => ¬ evalT w t (stOf w v x.toNat) = 1) (by omega) (fun x hx K hK => c_alwaysCl h hk2 (reachP_in h x hx) (by simp only [go_sem]) (by simp only [go_sem]) hK) (fun hex => ?_) fun hno => ?_
      · simp only [go_sem]
        have e : alwaysOf p t = (false, true) := by
          unfold alwaysOf alwaysB
          rw [if_pos ⟨hs, hk⟩, (sm_eq h).1, (sm_eq h).2, decide_eq_false]
          intro hall
          obtain ⟨x, hx, hp⟩ := hex
          exact hp (hall x hx)
        rw [e]
      · simp only [go_sem]
        have e : alwaysOf p t = (true, true) := by
          unfold alwaysOf alwaysB
          rw [if_pos ⟨hs, hk⟩, (sm_eq h).1, (sm_eq h).2, decide_eq_true]
          intro x hx
          exact Decidable.not_not.1 (hno x hx)
        rw [e]
    · simp only [go_sem, hk]
      have e : alwaysOf p t = (false, false) := if_neg fun h => hk h.2
      rw [e]
  · simp only [go_sem, hs]
    have e : alwaysOf p t = (false, false) := if_neg fun h => hs h.1
    rw [e]
theorem c_alwaysS {p : PProg} {t : List PNode} (hw : wfP p) (hsm : smProgram p) (ht : wfT t) (hl : t.length ≤ 1000000000) {H : Heap} {K : AV → Heap → Prop} (hK : K (.tup [.bool (alwaysOf p t).1, .bool (alwaysOf p t).2]) H) : ACall Tryz.prog 36 [eP p, eNs t] H K := by
  refine pureC rfl rfl ?_ hK
  refine call36 (by simp) ?_
  simp only [Tryz.results36, Tryz.ntmps36, Tryz.f36, Option.getD_some, pl36]
  simp only [go_sem]
  refine c_smallS (p := p) hw hsm ?_
  by_cases hs : smallP p
  · obtain ⟨w, v, h⟩ := sm_of hs
    have hn32 := h.n32
    simp only [go_sem, hs]
    refine c_condS (p := p) ht hl ?_
    by_cases hk : kindT p.1 p.2.1 t = 2
    · have hk2 := hk
      rw [h.e1, h.e2] at hk2
      have hrl := reachP_len h
      have hrin := reachP_in h
      have e : alwaysOf p t = (alwaysB p t w v, true) := by
        unfold alwaysOf
        rw [if_pos ⟨hs, hk⟩, (sm_eq h).1, (sm_eq h).2]
      rw [e]
      unfold alwaysB
      simp only [go_sem, hk]
      refine c_reachS (p := p) h ?_
      delta eI
      generalize reachP p w v = R at hrl hrin
      simp only [go_sem]
      refine ALoop.intro (pl := pl36) (fun k env H => ∃ i v2 : Nat, env 1 = eNs t ∧ env 2 = .ptr 2 v2 0 ∧ env 18 = eI R ∧ env 19 = I64 R.length ∧ env 20 = I64 i ∧ H 2 = .cells v2 36 1 [I64 p.1, I64 p.2.1, eNs p.2.2.1, eCos p.2.2.2] ∧ i + k = R.length ∧ ∀ x ∈ R.take i, evalT w t (stOf w v x.toNat) = 1) R.length (by kernel_rfl) ?_ ?_
      · simp only [go_sem]
        exact ⟨0, _, rfl, rfl, rfl, by omega, by simp⟩
      · rintro k env H ⟨i, v2, e1, e2, e18, e19, e20, b2, hk', hall⟩
        by_cases hz : (i : Int) < R.length
        · obtain ⟨x, hx⟩ := get_some (l := R) (i := i) (by omega)
          have hwi : IntKind.wrap .i64 ((i : Int) + 1) = i + 1 := i64_in _ (by omega)
          have h0 : (0 : Int) ≤ i := by omega
          have hxm := List.mem_of_getElem? hx
          have hxin := hrin x hxm
          obtain ⟨n, rfl⟩ : ∃ n : Nat, x = n := ⟨x.toNat, by have := hxin.1; omega⟩
          have hn : n < 2 ^ (w * v) := by have := hxin.2; omega
          simp only [go_sem, pl36, e1, e2, e18, e19, e20, b2, hz, hx, h0]
          refine c_stS (p := p) (w := w) (v := v) (no := n) h.e1 h.e2 h.w1 (by have := h.w5; omega) h.v4 h.wv (by omega) ?_
          simp only [go_sem, pl36, e1, e2, e18, e19, e20, b2, hz, hx, h0]
          refine c_holdsS (p := p) (w := w) (vars := v) (t := t) h.e1 (by rw [hk2]; omega) (stOf_len _ _ _) stOf_lt ?_
          by_cases hh : evalT w t (stOf w v n) = 1
          · simp only [go_sem, pl36, e1, e2, e18, e19, e20, b2, hz, hx, h0, hwi, hh]
            refine ⟨k - 1, by omega, i + 1, v2, rfl, rfl, rfl, by omega, fun y hy => ?_⟩
            rw [take_one hx] at hy
            rcases List.mem_append.1 hy with hy | hy
            · exact hall y hy
            · rw [List.mem_singleton.1 hy, Int.toNat_natCast]; exact hh
          · simp only [go_sem, pl36, e1, e2, e18, e19, e20, b2, hz, hx, h0, hwi, hh]
            rw [decide_eq_false]
            intro h9
            have := h9 _ hxm
            rw [Int.toNat_natCast] at this
            exact hh this
        · simp only [go_sem, pl36, e1, e2, e18, e19, e20, b2, hz]
          rw [List.take_of_length_le (by omega)] at hall
          rw [decide_eq_true hall]
    · simp only [go_sem, hk]
      have e : alwaysOf p t = (false, false) := if_neg fun h => hk h.2
      rw [e]
  · simp only [go_sem, hs]
    have e : alwaysOf p t = (false, false) := if_neg fun h => hs h.1
    rw [e]
end Go.Proofs.YteegphdelekdaaaGreat

set_option linter.unusedVariables false
set_option linter.unusedSimpArgs false
namespace Go.Proofs.YteegphdelekdaaaGreat
open Go.Abs Go.IntWalk
set_option maxRecDepth 100000
attribute [local go_sem] eI eU eNs eN cN eChs eCh cCh eCos eCo cCo eP take_map eII
/-- The law of AlwaysIn: true, whatever it is given. -/
theorem c_lawAlwaysIn {p : PProg} {t : List PNode} (hw : wfP p) (hb : bdProgram p) (ht : wfT t) (htl : t.length ≤ 9223372036854775807) : ACall Tryz.prog 6 [eP p, eNs t] H0 fun r _ => r = .bool true := by
  refine call6 (by simp) ?_
  simp only [Tryz.results6, Tryz.ntmps6, Tryz.f6, Option.getD_some, pl6]
  simp only [go_sem]
  refine c_szProgram (x := p) (by omega) (by omega) hb fun r hr => ?_
  by_cases h1 : r < 0
  · simp only [go_sem, h1, decide_true]
  · simp only [go_sem, h1, decide_false]
    obtain ⟨hrl, hsm⟩ := hr (by omega)
    refine c_szNodeS (t := t) (by omega) (by omega) htl fun r2 hr2 => ?_
    by_cases h2 : r2 < 0
    · simp only [go_sem, h2, decide_true]
    · simp only [go_sem, h2, decide_false]
      obtain ⟨_, hst⟩ := hr2 (by omega)
      refine c_toProgram (x := p) hsm ?_
      simp only [go_sem]
      refine c_toNodeS (t := t) hst ?_
      simp only [go_sem]
      refine c_alwaysS (p := p) (t := t) hw hsm ht (smN hst) ?_
      simp only [go_sem]
      refine c_toProgram (x := p) hsm ?_
      simp only [go_sem]
      refine c_toNodeS (t := t) hst ?_
      simp only [go_sem]
      refine c_alwaysI (p := p) (t := t) hw hsm ht (smN hst) ?_
      simp only [go_sem]
      refine c_toProgram (x := p) hsm ?_
      simp only [go_sem]
      refine c_eqProgram (x := p) (y := p) hsm hsm ?_
      simp only [go_sem, decide_true]
      refine c_toNodeS (t := t) hst ?_
      simp only [go_sem]
      refine c_eqNodeS (a := t) (b := t) hst hst ?_
      simp only [go_sem, decide_true]
/-! StepsTo. -/
noncomputable def distP (p : PProg) (no : Int) (w v : Nat) : Int := distL (gOf w v p.2.2.2) (those w v p.2.2.1 (2 ^ (w * v))) no
open Classical in
noncomputable def stepsOf (p : PProg) (no : Int) : Int × Bool := if noOk p no ∧ 0 ≤ distP p no p.1.toNat p.2.1.toNat then (distP p no p.1.toNat p.2.1.toNat, true) else (0, false)
theorem stepsOf_yes {p : PProg} {no : Int} {w v : Nat} (h : Sm p w v) (hn : noOk p no) (hd : 0 ≤ distP p no w v) : stepsOf p no = (distP p no w v, true) := by
  unfold stepsOf
  rw [(sm_eq h).1, (sm_eq h).2, if_pos ⟨hn, hd⟩]
theorem stepsOf_no {p : PProg} {no : Int} {w v : Nat} (h : Sm p w v) (hd : distP p no w v < 0) : stepsOf p no = (0, false) := by
  unfold stepsOf
  rw [(sm_eq h).1, (sm_eq h).2, if_neg fun hx => by omega]
theorem stepsOf_bad {p : PProg} {no : Int} (hn : ¬ noOk p no) : stepsOf p no = (0, false) := by
  unfold stepsOf
  rw [if_neg fun hx => hn hx.1]
theorem no_in {p : PProg} {w v : Nat} {no : Int} (h : Sm p w v) : noOk p no ↔ inN (2 ^ (w * v)) no := by
  have hm := h.many
  unfold noOk inN
  exact ⟨fun x => by omega, fun x => ⟨h.small, by omega⟩⟩
theorem c_stepsToI {p : PProg} {no : Int} (hw : wfP p) (hsm : smProgram p) {H : Heap} {K : AV → Heap → Prop} (hK : K (.tup [I64 (stepsOf p no).1, .bool (stepsOf p no).2]) H) : ACall Tryz.prog 41 [eP p, I64 no] H K := by
  refine pureC rfl rfl ?_ hK
  refine call41 (by simp) ?_
  simp only [Tryz.results41, Tryz.ntmps41, Tryz.f41, Option.getD_some, pl41]
  simp only [go_sem]
  refine c_noI (p := p) (no := no) hw hsm ?_
  by_cases hn : noOk p no
  · obtain ⟨w, v, h⟩ := sm_of hn.1
    have hin := (no_in h).1 hn
    have hn32 := h.n32
    have h2 := two_pos (w * v)
    have hno0 : (0 : Int) ≤ no := hin.1
    simp only [go_sem, hn]
    refine c_graph (p := p) h ?_
    simp only [go_sem]
    refine c_where (p := p) (w := w) (v := v) (t := p.2.2.1) h.small h.e1 h.e2 (by rw [h.start]; omega) ?_
    rw [sm_many h]
    simp only [go_sem]
    refine c_steps (g := gOf w v p.2.2.2) (ss := those w v p.2.2.1 (2 ^ (w * v))) (gOf_ok h.ok) (by rw [gOf_len]; omega) (by rw [gOf_len]; omega) (gOf_small h.len) (fun x hx => by rw [gOf_len]; exact those_in x hx) (Nat.le_trans those_len (by omega)) fun st hd => ?_
    have hlen := hd.len
    rw [gOf_len] at hlen
    have hat := lab_get hlen hin
    have hno1 : no < (st.length : Int) := by rw [hlen]; exact hin.2
    have hld := lab_dist hd (x := no) (by rw [gOf_len]; exact hin)
    by_cases hneg : lab st no < 0
    · simp only [go_sem, hat, hno0, hno1, hneg]
      rw [stepsOf_no h (by unfold distP; rw [hld.2 hneg]; omega)]
    · simp only [go_sem, hat, hno0, hno1, hneg]
      rw [stepsOf_yes h hn (by unfold distP; rw [← hld.1 (by omega)]; omega)]
      unfold distP
      rw [hld.1 (by omega)]
  · simp only [go_sem, hn]
    rw [stepsOf_bad hn]
theorem c_stepsToS {p : PProg} {no : Int} (hw : wfP p) (hsm : smProgram p) {H : Heap} {K : AV → Heap → Prop} (hK : K (.tup [I64 (stepsOf p no).1, .bool (stepsOf p no).2]) H) : ACall Tryz.prog 40 [eP p, I64 no] H K := by
  refine pureC rfl rfl ?_ hK
  refine call40 (by simp) ?_
  simp only [Tryz.results40, Tryz.ntmps40, Tryz.f40, Option.getD_some, pl40]
  simp only [go_sem]
  refine c_smallS (p := p) hw hsm ?_
  by_cases hs : smallP p
  · obtain ⟨w, v, h⟩ := sm_of hs
    have hn32 := h.n32
    have hrl := reachP_len h
    have hgo : okG (gOf w v p.2.2.2) := gOf_ok h.ok
    have hgl : (gOf w v p.2.2.2).length = 2 ^ (w * v) := gOf_len
    have hsi : inc (those w v p.2.2.1 (2 ^ (w * v))) := inc_those
    have hsin : ∀ x ∈ those w v p.2.2.1 (2 ^ (w * v)), inN (gOf w v p.2.2.2).length x := fun x hx => by rw [hgl]; exact those_in x hx
    have hmem := mem_reach hgo hsi hsin (x := no)
    have hdp : distP p no w v = distL (gOf w v p.2.2.2) (those w v p.2.2.1 (2 ^ (w * v))) no := rfl
    have hrp : reachP p w v = reachL (gOf w v p.2.2.2) (those w v p.2.2.1 (2 ^ (w * v))) := rfl
    simp only [go_sem, hs]
    refine c_reachS (p := p) h ?_
    simp only [go_sem]
    refine c_has (l := reachP p w v) (x := no) (by omega) ?_
    by_cases hin : no ∈ reachP p w v
    · simp only [go_sem, hin]
      rw [hrp] at hin
      obtain ⟨k0, hk0⟩ := hmem.1 hin
      have hno : noOk p no := (no_in h).2 (by rw [← hgl]; exact Wk_in hgo hsin hk0)
      refine c_those (p := p) (w := w) (v := v) (t := p.2.2.1) h.small h.e1 h.e2 (by rw [h.start]; omega) ?_
      rw [sm_many h]
      simp only [go_sem]
      generalize hg : gOf w v p.2.2.2 = g at *
      generalize hss : those w v p.2.2.1 (2 ^ (w * v)) = ss at *
      refine ALoop.intro (pl := pl40) (fun k env H => ∃ m v2 : Nat, env 1 = I64 no ∧ env 2 = .ptr 2 v2 0 ∧ env 6 = eI (lv g ss m) ∧ env 7 = I64 m ∧ H 2 = .cells v2 36 1 [I64 p.1, I64 p.2.1, eNs p.2.2.1, eCos p.2.2.2] ∧ m ≤ (lv g ss m).length ∧ m + k = g.length ∧ ∀ k, k < m → ¬ Wk g ss k no) g.length (by kernel_rfl) ?_ ?_
      · simp only [go_sem]
        exact ⟨0, _, rfl, rfl, rfl, rfl, by omega, by omega, by omega⟩
      · rintro k env H ⟨m, v2, e1, e2, e6, e7, b2, hm, hk, hno2⟩
        have hml := lv_len hgo hsi hsin m
        have hmi : ∀ x ∈ lv g ss m, inN g.length x := fun x hx => Wk_in hgo hsin (mem_lv.1 hx)
        have hgr := lv_grow (g := g) hsi m
        have hml2 := lv_len hgo hsi hsin (m + 1)
        have hwm : IntKind.wrap .i64 ((m : Int) + 1) = m + 1 := i64_in _ (by omega)
        simp only [go_sem, pl40, e1, e2, e6, e7, b2]
        refine c_has (l := lv g ss m) (x := no) (by omega) ?_
        by_cases hf : no ∈ lv g ss m
        · simp only [go_sem, pl40, e1, e2, e6, e7, b2, hf]
          have hd : distP p no w v = m := by rw [hdp]; exact dist_eq ⟨mem_lv.1 hf, hno2⟩
          rw [stepsOf_yes h hno (by omega), hd]
        · simp only [go_sem, pl40, e1, e2, e6, e7, b2, hf]
          refine c_after8 (p := p) h (l := lv g ss m) (by rw [← hgl]; exact hmi) (by omega) ?_
          rw [hg]
          simp only [go_sem, pl40, e1, e2, e6, e7, b2, hf]
          refine c_union (a := lv g ss m) (b := aft g (lv g ss m)) (n := g.length) (by omega) (inc_lv hsi m) hmi (aft_in hgo) (Nat.le_trans (inc_len (inc_canon _) (aft_in hgo)) (by omega)) ?_
          rw [show uni (lv g ss m) (aft g (lv g ss m)) = lv g ss (m + 1) from rfl]
          have hne : (lv g ss (m + 1)).length ≠ (lv g ss m).length := fun e => hf (mem_lv.2 (lv_stop hsi e k0 no hk0))
          simp only [go_sem, pl40, e1, e2, e6, e7, b2, hf, hwm]
          refine ⟨k - 1, by omega, m + 1, v2, rfl, rfl, rfl, rfl, by omega, by omega, fun j hj hw => ?_⟩
          by_cases e : j = m
          · subst e; exact hf (mem_lv.2 hw)
          · exact hno2 j (by omega) hw
    · simp only [go_sem, hin]
      have hd : distP p no w v < 0 := by
        rw [hdp, dist_none fun k hk => hin (by rw [hrp]; exact hmem.2 ⟨k, hk⟩)]; omega
      rw [stepsOf_no h hd]
  · simp only [go_sem, hs]
    rw [stepsOf_bad fun h => hs h.1]
end Go.Proofs.YteegphdelekdaaaGreat

set_option linter.unusedVariables false
set_option linter.unusedSimpArgs false
namespace Go.Proofs.YteegphdelekdaaaGreat
open Go.Abs Go.IntWalk
set_option maxRecDepth 100000
attribute [local go_sem] eI eU eNs eN cN eChs eCh cCh eCos eCo cCo eP take_map eII
/-- The law of StepsTo: true, whatever it is given. -/
theorem c_lawStepsTo {p : PProg} {no : Int} (hw : wfP p) (hb : bdProgram p) : ACall Tryz.prog 7 [eP p, I64 no] H0 fun r _ => r = .bool true := by
  refine call7 (by simp) ?_
  simp only [Tryz.results7, Tryz.ntmps7, Tryz.f7, Option.getD_some, pl7]
  simp only [go_sem]
  refine c_szProgram (x := p) (by omega) (by omega) hb fun r hr => ?_
  by_cases h1 : r < 0
  · simp only [go_sem, h1, decide_true]
  · simp only [go_sem, h1, decide_false]
    obtain ⟨hrl, hsm⟩ := hr (by omega)
    refine c_toProgram (x := p) hsm ?_
    simp only [go_sem]
    refine c_stepsToS (p := p) (no := no) hw hsm ?_
    simp only [go_sem]
    refine c_toProgram (x := p) hsm ?_
    simp only [go_sem]
    refine c_stepsToI (p := p) (no := no) hw hsm ?_
    simp only [go_sem]
    refine c_toProgram (x := p) hsm ?_
    simp only [go_sem]
    refine c_eqProgram (x := p) (y := p) hsm hsm ?_
    simp only [go_sem, decide_true]
/-! IsPath. -/
def pathStep (p : PProg) (w v : Nat) (path : List Int) (i : Nat) : Prop := ∃ a b, path[i]? = some a ∧ path[i + 1]? = some b ∧ b ∈ sucs (gOf w v p.2.2.2) a
def pathOk (p : PProg) (path : List Int) : Prop := (1 ≤ path.length ∧ path.length ≤ 200) ∧ ∀ x ∈ path, noOk p x
instance (p : PProg) (path : List Int) : Decidable (pathOk p path) := by unfold pathOk; infer_instance
/-- All steps below i are steps. -/
def stepsAre (g : List (List Int)) (path : List Int) (i : Nat) : Bool := (List.range i).all fun k => decide ((path[k + 1]?).getD 0 ∈ sucs g ((path[k]?).getD 0))
theorem steps_succ {g : List (List Int)} {path : List Int} {i : Nat} {a b : Int} (ha : path[i]? = some a) (hb : path[i + 1]? = some b) : stepsAre g path (i + 1) = (stepsAre g path i && decide (b ∈ sucs g a)) := by
  unfold stepsAre
  rw [List.range_succ, List.all_append]
  simp [ha, hb]
theorem steps_mono {g : List (List Int)} {path : List Int} {i j : Nat} (h : i ≤ j) (hf : stepsAre g path i = false) : stepsAre g path j = false := by
  induction h with
  | refl => exact hf
  | step _ ih =>
    unfold stepsAre at ih ⊢
    rw [List.range_succ, List.all_append, ih]; rfl
def isPathOf (p : PProg) (path : List Int) : Bool × Bool :=
  if pathOk p path then (stepsAre (gOf p.1.toNat p.2.1.toNat p.2.2.2) path (path.length - 1) && decide (evalT p.1.toNat p.2.2.1 (stOf p.1.toNat p.2.1.toNat ((path[0]?).getD 0).toNat) = 1), true) else (false, false)
theorem isPath_yes {p : PProg} {path : List Int} {w v : Nat} {x : Int} (h : Sm p w v) (hok : pathOk p path) (hx : path[0]? = some x) : isPathOf p path = (stepsAre (gOf w v p.2.2.2) path (path.length - 1) && decide (evalT w p.2.2.1 (stOf w v x.toNat) = 1), true) := by
  unfold isPathOf
  rw [if_pos hok, (sm_eq h).1, (sm_eq h).2, hx]
  rfl
theorem isPath_no {p : PProg} {path : List Int} (h : ¬ pathOk p path) : isPathOf p path = (false, false) := if_neg h
theorem c_pathCl {p : PProg} {x : Int} {i2 v2 : Nat} (hw : wfP p) (hsm : smProgram p) {H : Heap} {K : AV → Heap → Prop} (h2 : H i2 = .cells v2 36 1 [I64 p.1, I64 p.2.1, eNs p.2.2.1, eCos p.2.2.2])
    (hK : K (.bool (decide (¬ noOk p x))) H) : ACall Tryz.prog 73 [I64 x, .ptr i2 v2 0] H K := by
  refine call73 (by simp) ?_
  simp only [Tryz.results73, Tryz.ntmps73, Tryz.f73, Option.getD_some, pl73]
  simp only [go_sem, h2]
  refine c_noI (p := p) (no := x) hw hsm ?_
  simp only [go_sem]
  rw [decide_not] at hK
  exact hK
theorem c_isPathI {p : PProg} {path : List Int} (hw : wfP p) (hsm : smProgram p) (hl : path.length ≤ 1048576) {H : Heap} {K : AV → Heap → Prop} (hK : K (.tup [.bool (isPathOf p path).1, .bool (isPathOf p path).2]) H) : ACall Tryz.prog 34 [eP p, eI path] H K := by
  refine pureC rfl rfl ?_ hK
  refine call34 (by simp) ?_
  simp only [Tryz.results34, Tryz.ntmps34, Tryz.f34, Option.getD_some, pl34]
  have bad : ¬ pathOk p path → isPathOf p path = (false, false) := isPath_no
  by_cases h1 : (path.length : Int) < 1
  · simp only [go_sem, h1]
    rw [bad fun h => by have := h.1.1; omega]
  by_cases h2 : (200 : Int) < path.length
  · simp only [go_sem, h1, h2]
    rw [bad fun h => by have := h.1.2; omega]
  simp only [go_sem, h1, h2]
  refine i_contF (l := path) (P := fun x => ¬ noOk p x) (by omega) (fun x hx K hK => c_pathCl hw hsm (by simp only [go_sem]) hK) (fun hex => ?_) fun hall => ?_
  · simp only [go_sem]
    obtain ⟨x, hx, hn⟩ := hex
    rw [bad fun h => hn (h.2 x hx)]
  · have hall' : ∀ x ∈ path, noOk p x := fun x hx => Decidable.not_not.1 (hall x hx)
    obtain ⟨x0, hx0⟩ := get_some (l := path) (i := 0) (by omega)
    have hn0 := hall' x0 (List.mem_of_getElem? hx0)
    obtain ⟨w, v, h⟩ := sm_of hn0.1
    have hn32 := h.n32
    have hok : pathOk p path := ⟨by omega, hall'⟩
    have hin : ∀ x ∈ path, inN (2 ^ (w * v)) x := fun x hx => (no_in h).1 (hall' x hx)
    rw [isPath_yes h hok hx0]
    simp only [go_sem]
    refine ALoop.intro (pl := pl34) (fun k env H => ∃ i v2 : Nat, env 1 = eI path ∧ env 2 = .ptr 2 v2 0 ∧ env 6 = I64 ((i + 1 : Nat) : Int) ∧ H 2 = .cells v2 36 1 [I64 p.1, I64 p.2.1, eNs p.2.2.1, eCos p.2.2.2] ∧ i + 1 + k = path.length ∧ stepsAre (gOf w v p.2.2.2) path i = true) (path.length - 1) (by kernel_rfl) ?_ ?_
    · simp only [go_sem]
      exact ⟨0, _, rfl, rfl, rfl, by omega, rfl⟩
    · rintro k env H ⟨i, v2, e1, e2, e6, b2, hk, hst⟩
      by_cases hz : ((i + 1 : Nat) : Int) < path.length
      · obtain ⟨a, ha⟩ := get_some (l := path) (i := i) (by omega)
        obtain ⟨b, hb⟩ := get_some (l := path) (i := i + 1) (by omega)
        have h0 : (0 : Int) ≤ i := by omega
        have h01 : (0 : Int) ≤ ((i + 1 : Nat) : Int) := by omega
        have hwi : IntKind.wrap .i64 (((i + 1 : Nat) : Int) - 1) = i := (i64_in _ (by omega)).trans (by omega)
        have hwi2 : IntKind.wrap .i64 (((i + 1 : Nat) : Int) + 1) = ((i + 1 + 1 : Nat) : Int) := (i64_in _ (by omega)).trans (by omega)
        have hil : (i : Int) < path.length := by omega
        have hain := hin a (List.mem_of_getElem? ha)
        have hsa := gOf_suc (cmds := p.2.2.2) hain
        obtain ⟨n, rfl⟩ : ∃ n : Nat, a = n := ⟨a.toNat, by have := hain.1; omega⟩
        rw [Int.toNat_natCast] at hsa
        have hnl := nextL_len (w := w) (v := v) (no := n) h.len
        have hss := steps_succ (g := gOf w v p.2.2.2) ha hb
        rw [hst, hsa] at hss
        simp only [go_sem, pl34, e1, e2, e6, b2, hz, hwi, h0, hil, ha, h01, hb]
        refine c_nextI (p := p) h (no := n) (by have := hain.2; omega) ?_
        simp only [go_sem, pl34, e1, e2, e6, b2, hz, hwi, h0, hil, ha, h01, hb]
        refine c_cont (l := nextL w v p.2.2.2 n) (x := b) (by omega) ?_
        by_cases hm : b ∈ nextL w v p.2.2.2 n
        · simp only [go_sem, pl34, e1, e2, e6, b2, hz, hwi, h0, hil, ha, h01, hb, hm, hwi2]
          rw [decide_eq_true hm] at hss
          exact ⟨k - 1, by omega, i + 1, v2, rfl, rfl, rfl, by omega, hss⟩
        · simp only [go_sem, pl34, e1, e2, e6, b2, hz, hwi, h0, hil, ha, h01, hb, hm, hwi2]
          rw [decide_eq_false hm] at hss
          rw [steps_mono (i := i + 1) (by omega) hss]
          rfl
      · have h01 : (0 : Int) < path.length := by omega
        have hx0in := hin x0 (List.mem_of_getElem? hx0)
        obtain ⟨n0, rfl⟩ : ∃ n : Nat, x0 = n := ⟨x0.toNat, by have := hx0in.1; omega⟩
        simp only [go_sem, pl34, e1, e2, e6, b2, hz, hx0, h01]
        refine c_stI (p := p) (w := w) (v := v) (no := n0) h.e1 h.e2 h.w1 (by have := h.w5; omega) h.v4 h.wv (by have := hx0in.2; omega) ?_
        try simp only [go_sem, pl34, e1, e2, e6, b2, hz, hx0, h01]
        refine c_holdsI (p := p) (w := w) (vars := v) (t := p.2.2.1) h.e1 (by rw [h.start]; omega) (stOf_len _ _ _) stOf_lt ?_
        try simp only [go_sem, pl34, e1, e2, e6, b2, hz, hx0, h01]
        have : i = path.length - 1 := by omega
        subst this
        rw [hst]; simp
theorem c_all {l : List Int} {lo hi : Int} (hl : l.length ≤ 1000000000) {H : Heap} {K : AV → Heap → Prop} (hK : K (.bool (decide (∀ x ∈ l, lo ≤ x ∧ x ≤ hi))) H) : ACall Tryz.prog 68 [eI l, I64 lo, I64 hi] H K := by
  refine pureC rfl rfl ?_ hK
  refine call68 (by simp) ?_
  simp only [Tryz.results68, Tryz.ntmps68, Tryz.f68, Option.getD_some, pl68]
  simp only [go_sem]
  refine ALoop.intro (pl := pl68) (fun k env H => ∃ i : Nat, env 1 = I64 lo ∧ env 2 = I64 hi ∧ env 9 = eI l ∧ env 10 = I64 l.length ∧ env 11 = I64 i ∧ i + k = l.length ∧ ∀ x ∈ l.take i, lo ≤ x ∧ x ≤ hi) l.length (by kernel_rfl) ?_ ?_
  · simp only [go_sem]
    exact ⟨0, by simp⟩
  · rintro k env H ⟨i, e1, e2, e9, e10, e11, hk, ht⟩
    by_cases hz : (i : Int) < l.length
    · obtain ⟨y, hy⟩ := get_some (l := l) (i := i) (by omega)
      have h0 : (0 : Int) ≤ i := by omega
      have hw : IntKind.wrap .i64 ((i : Int) + 1) = i + 1 := i64_in _ (by omega)
      simp only [go_sem, pl68, e1, e2, e9, e10, e11, hz, hy, h0]
      refine c_in ?_
      by_cases hp : lo ≤ y ∧ y ≤ hi
      · simp only [go_sem, pl68, e1, e2, e9, e10, e11, hz, hy, h0, hw, hp]
        refine ⟨k - 1, by omega, i + 1, rfl, by omega, fun z hz => ?_⟩
        rw [take_one hy] at hz
        rcases List.mem_append.1 hz with hz | hz
        · exact ht z hz
        · rw [List.mem_singleton.1 hz]; exact hp
      · simp only [go_sem, pl68, e1, e2, e9, e10, e11, hz, hy, h0, hw, hp]
        exact bF fun e => hp (e y (List.mem_of_getElem? hy))
    · simp only [go_sem, pl68, e1, e2, e9, e10, e11, hz]
      rw [List.take_of_length_le (by omega)] at ht
      exact bT ht
theorem c_isPathS {p : PProg} {path : List Int} (hw : wfP p) (hsm : smProgram p) (hl : path.length ≤ 1048576) {H : Heap} {K : AV → Heap → Prop} (hK : K (.tup [.bool (isPathOf p path).1, .bool (isPathOf p path).2]) H) : ACall Tryz.prog 33 [eP p, eI path] H K := by
  refine pureC rfl rfl ?_ hK
  refine call33 (by simp) ?_
  simp only [Tryz.results33, Tryz.ntmps33, Tryz.f33, Option.getD_some, pl33]
  have bad : ¬ pathOk p path → isPathOf p path = (false, false) := isPath_no
  simp only [go_sem]
  refine c_smallS (p := p) hw hsm ?_
  by_cases hs : smallP p
  · obtain ⟨w, v, h⟩ := sm_of hs
    have hn32 := h.n32
    have hmany := h.many
    simp only [go_sem, hs]
    refine c_in ?_
    by_cases h1 : 1 ≤ (path.length : Int) ∧ (path.length : Int) ≤ 200
    · simp only [go_sem, h1]
      refine c_manyS (p := p) hs ?_
      have hml := manyP_le hs
      have hwm : IntKind.wrap .i64 (manyP p - 1) = manyP p - 1 := i64_in _ (by omega)
      simp only [go_sem, hwm]
      refine c_all (l := path) (by omega) ?_
      by_cases h2 : ∀ x ∈ path, 0 ≤ x ∧ x ≤ manyP p - 1
      · have hd := decide_eq_true h2
        simp only [go_sem, hd]
        have hall' : ∀ x ∈ path, noOk p x := fun x hx => ⟨hs, by have := h2 x hx; omega⟩
        have hok : pathOk p path := ⟨by omega, hall'⟩
        obtain ⟨x0, hx0⟩ := get_some (l := path) (i := 0) (by omega)
        have hin : ∀ x ∈ path, inN (2 ^ (w * v)) x := fun x hx => (no_in h).1 (hall' x hx)
        have hx0in := hin x0 (List.mem_of_getElem? hx0)
        obtain ⟨n0, rfl⟩ : ∃ n : Nat, x0 = n := ⟨x0.toNat, by have := hx0in.1; omega⟩
        have h01 : (0 : Int) < path.length := by omega
        rw [isPath_yes h hok hx0]
        simp only [go_sem, hx0, h01]
        refine c_those (p := p) (w := w) (v := v) (t := p.2.2.1) h.small h.e1 h.e2 (by rw [h.start]; omega) ?_
        rw [sm_many h]
        simp only [go_sem, hx0, h01]
        have htl := those_len (w := w) (v := v) (n := 2 ^ (w * v)) (t := p.2.2.1)
        refine c_has (l := those w v p.2.2.1 (2 ^ (w * v))) (x := (n0 : Int)) (by omega) ?_
        have hst0 : decide ((n0 : Int) ∈ those w v p.2.2.1 (2 ^ (w * v))) = decide (evalT w p.2.2.1 (stOf w v n0) = 1) := by
          refine decide_eq_decide.2 ?_
          rw [mem_those]
          exact ⟨fun h => h.2, fun h => ⟨by have := hx0in.2; omega, h⟩⟩
        rw [hst0, Int.toNat_natCast]
        generalize decide (evalT w p.2.2.1 (stOf w v n0) = 1) = b0
        simp only [go_sem]
        refine ALoop.intro (pl := pl33) (fun k env H => ∃ i v2 : Nat, env 1 = eI path ∧ env 2 = .ptr 2 v2 0 ∧ env 6 = .bool (stepsAre (gOf w v p.2.2.2) path i && b0) ∧ env 7 = I64 ((i + 1 : Nat) : Int) ∧ H 2 = .cells v2 36 1 [I64 p.1, I64 p.2.1, eNs p.2.2.1, eCos p.2.2.2] ∧ i + 1 + k = path.length) (path.length - 1) (by kernel_rfl) ?_ ?_
        · simp only [go_sem]
          exact ⟨0, _, rfl, by simp [stepsAre], rfl, rfl, by omega⟩
        · rintro k env H ⟨i, v2, e1, e2, e6, e7, b2, hk⟩
          by_cases hz : ((i + 1 : Nat) : Int) < path.length
          · obtain ⟨a, ha⟩ := get_some (l := path) (i := i) (by omega)
            obtain ⟨b, hb⟩ := get_some (l := path) (i := i + 1) (by omega)
            have h0 : (0 : Int) ≤ i := by omega
            have h01 : (0 : Int) ≤ ((i + 1 : Nat) : Int) := by omega
            have hwi : IntKind.wrap .i64 (((i + 1 : Nat) : Int) - 1) = i := (i64_in _ (by omega)).trans (by omega)
            have hwi2 : IntKind.wrap .i64 (((i + 1 : Nat) : Int) + 1) = ((i + 1 + 1 : Nat) : Int) := (i64_in _ (by omega)).trans (by omega)
            have hil : (i : Int) < path.length := by omega
            have hain := hin a (List.mem_of_getElem? ha)
            have hsa := gOf_suc (cmds := p.2.2.2) hain
            obtain ⟨n, rfl⟩ : ∃ n : Nat, a = n := ⟨a.toNat, by have := hain.1; omega⟩
            rw [Int.toNat_natCast] at hsa
            have hnl := nextL_len (w := w) (v := v) (no := n) h.len
            have hss := steps_succ (g := gOf w v p.2.2.2) ha hb
            rw [hsa] at hss
            cases hbb : (stepsAre (gOf w v p.2.2.2) path i && b0) with
            | false =>
              rw [hbb] at e6
              simp only [go_sem, pl33, e1, e2, e6, e7, b2, hz, hwi2]
              refine ⟨k - 1, by omega, i + 1, v2, rfl, ?_, rfl, rfl, by omega⟩
              rw [hss, Bool.and_right_comm, hbb]; rfl
            | true =>
              rw [hbb] at e6
              simp only [go_sem, pl33, e1, e2, e6, e7, b2, hz, hwi, h0, hil, ha, h01, hb]
              refine c_nextS (p := p) h (no := n) (by have := hain.2; omega) ?_
              simp only [go_sem, pl33, e1, e2, e6, e7, b2, hz, hwi, h0, hil, ha, h01, hb]
              refine c_has (l := nextL w v p.2.2.2 n) (x := b) (by omega) ?_
              simp only [go_sem, pl33, e1, e2, e6, e7, b2, hz, hwi, h0, hil, ha, h01, hb, hwi2]
              refine ⟨k - 1, by omega, i + 1, v2, rfl, ?_, rfl, rfl, by omega⟩
              rw [hss, Bool.and_right_comm, hbb, Bool.true_and]
          · simp only [go_sem, pl33, e1, e2, e6, e7, b2, hz]
            have : i = path.length - 1 := by omega
            subst this
            rfl
      · have hd := decide_eq_false h2
        simp only [go_sem, hd]
        rw [bad fun hb => h2 fun x hx => by have := (hb.2 x hx).2; omega]
    · simp only [go_sem, h1]
      rw [bad fun h => h1 (by have := h.1; omega)]
  · simp only [go_sem, hs]
    rw [bad fun h => by
      obtain ⟨x0, hx0⟩ := get_some (l := path) (i := 0) (by have := h.1.1; omega)
      exact hs (h.2 x0 (List.mem_of_getElem? hx0)).1]
end Go.Proofs.YteegphdelekdaaaGreat

set_option linter.unusedVariables false
set_option linter.unusedSimpArgs false
namespace Go.Proofs.YteegphdelekdaaaGreat
open Go.Abs Go.IntWalk
set_option maxRecDepth 100000
attribute [local go_sem] eI eU eNs eN cN eChs eCh cCh eCos eCo cCo eP take_map eII
/-! Copies of lists of numbers; the law of IsPath. -/
theorem c_toIntS {t : List Int} {H : Heap} {K : AV → Heap → Prop} (ht : t.length ≤ 1048576) (hK : K (eI t) H) : ACall Tryz.prog 16 [eI t] H K := by
  refine ACall.pure (R := fun r H' => ∃ v, r = .ref 7 v 0 t.length ∧ H' 7 = .cells v 3 1 (t.map I64)) rfl ?_ ?_
  · refine call16 (by simp) ?_
    simp only [Tryz.results16, Tryz.ntmps16, Tryz.f16, Option.getD_some, pl16]
    simp only [go_sem]
    refine ⟨by omega, by omega, by omega, by omega, ?_⟩
    refine ALoop.intro (pl := pl16) (fun k env H => ∃ (i v : Nat) (C : List AV), env 0 = eI t ∧ env 3 = .ref 7 v 0 t.length ∧ env 4 = I64 i ∧ H 7 = .cells v 3 1 C ∧ i + k = t.length ∧ C.length = t.length ∧ C.take i = (t.take i).map I64) t.length (by kernel_rfl) ?_ ?_
    · simp only [go_sem]
      exact ⟨0, _, _, rfl, rfl, rfl, by omega, by rw [reps_len]; simp, rfl⟩
    · rintro k env H ⟨i, v, C, e0, e3, e4, b7, hk, hC, hT⟩
      by_cases hz : (i : Int) < t.length
      · obtain ⟨x, hx⟩ := get_some (l := t) (i := i) (by omega)
        have h0 : (0 : Int) ≤ i := by omega
        have hw : IntKind.wrap .i64 ((i : Int) + 1) = i + 1 := i64_in _ (by omega)
        simp only [go_sem, pl16, e0, e3, e4, b7, hz, hx, h0, hw]
        refine ⟨by omega, k - 1, by omega, i + 1, _, _, rfl, rfl, rfl, by omega, ?_, ?_⟩
        · rw [List.length_set]; exact hC
        · rw [set_take (by omega), hT, take_one hx, List.map_append]; rfl
      · simp only [go_sem, e0, e3, e4, b7, hz]
        rw [List.take_of_length_le (by omega), List.take_of_length_le (by omega)] at hT
        exact ⟨v, rfl, by rw [hT]⟩
  · rintro r H' ⟨v, rfl, h⟩
    exact ⟨_, resI rfl rfl h, rfl, hK⟩
theorem k_toIntS {t : List Int} {H : Heap} (ht : t.length ≤ 1048576) : ACall Tryz.prog 16 [eI t] H fun r H' => ∃ v cs, r = .ref 7 v 0 t.length ∧ H' 7 = .cells v 3 1 cs ∧ cs = t.map I64 := by
  refine call16 (by simp) ?_
  simp only [Tryz.results16, Tryz.ntmps16, Tryz.f16, Option.getD_some, pl16]
  simp only [go_sem]
  refine ⟨by omega, by omega, by omega, by omega, ?_⟩
  refine ALoop.intro (pl := pl16) (fun k env H => ∃ (i v : Nat) (C : List AV), env 0 = eI t ∧ env 3 = .ref 7 v 0 t.length ∧ env 4 = I64 i ∧ H 7 = .cells v 3 1 C ∧ i + k = t.length ∧ C.length = t.length ∧ C.take i = (t.take i).map I64) t.length (by kernel_rfl) ?_ ?_
  · simp only [go_sem]
    exact ⟨0, _, _, rfl, rfl, rfl, by omega, by rw [reps_len]; simp, rfl⟩
  · rintro k env H ⟨i, v, C, e0, e3, e4, b7, hk, hC, hT⟩
    by_cases hz : (i : Int) < t.length
    · obtain ⟨x, hx⟩ := get_some (l := t) (i := i) (by omega)
      have h0 : (0 : Int) ≤ i := by omega
      have hw : IntKind.wrap .i64 ((i : Int) + 1) = i + 1 := i64_in _ (by omega)
      simp only [go_sem, pl16, e0, e3, e4, b7, hz, hx, h0, hw]
      refine ⟨by omega, k - 1, by omega, i + 1, _, _, rfl, rfl, rfl, by omega, ?_, ?_⟩
      · rw [List.length_set]; exact hC
      · rw [set_take (by omega), hT, take_one hx, List.map_append]; rfl
    · simp only [go_sem, e0, e3, e4, b7, hz]
      rw [List.take_of_length_le (by omega), List.take_of_length_le (by omega)] at hT
      exact ⟨v, _, rfl, rfl, by rw [hT]⟩
theorem o_toIntS {t : List Int} {H : Heap} {K : AV → Heap → Prop} (d : Nat) (hd : 1000000 ≤ d) (ht : t.length ≤ 1048576) (hg : ∃ v0, H d = .gone v0) (hK : ∀ ver, K (.ref d ver 0 t.length) (upd H d (.cells ver 3 1 (t.map I64)))) : ACall Tryz.prog 16 [eI t] H K := by
  obtain ⟨v0, hg⟩ := hg
  refine ACall.own1 d hg rfl (cll_map fun _ => rfl) ?_ hK
  refine ACall.named 1000000 (by omega) (s := 7) (by omega) (Q := fun cs H' => cs = t.map I64) (k_toIntS ht) ?_
  rintro v ver cs H' rfl
  exact ⟨ver, rfl, upd_same ..⟩
/-- The law of IsPath: true, whatever it is given. -/
theorem c_lawIsPath {p : PProg} {s : List Int} (hw : wfP p) (hb : bdProgram p) (hsl : s.length ≤ 9223372036854775807) : ACall Tryz.prog 5 [eP p, eI s] H0 fun r _ => r = .bool true := by
  refine call5 (by simp) ?_
  simp only [Tryz.results5, Tryz.ntmps5, Tryz.f5, Option.getD_some, pl5]
  by_cases h0 : 1048576 < (s.length : Int)
  · simp only [go_sem, h0]
  · have hl : s.length ≤ 1048576 := by omega
    simp only [go_sem, h0]
    refine c_szProgram (x := p) (by omega) (by omega) hb fun r hr => ?_
    by_cases h1 : r < 0
    · simp only [go_sem, h1, decide_true]
    · simp only [go_sem, h1, decide_false]
      obtain ⟨hrl, hsm⟩ := hr (by omega)
      refine c_toProgram (x := p) hsm ?_
      simp only [go_sem]
      refine c_toIntS (t := s) hl ?_
      simp only [go_sem]
      refine c_isPathS (p := p) hw hsm hl ?_
      simp only [go_sem]
      refine c_toProgram (x := p) hsm ?_
      simp only [go_sem]
      refine c_toIntS (t := s) hl ?_
      simp only [go_sem]
      refine c_isPathI (p := p) hw hsm hl ?_
      simp only [go_sem]
      refine c_toProgram (x := p) hsm ?_
      simp only [go_sem]
      refine c_eqProgram (x := p) (y := p) hsm hsm ?_
      simp only [go_sem, decide_true]
      refine c_toIntS (t := s) hl ?_
      simp only [go_sem]
      refine c_eqIntS (a := s) (b := s) (by omega) (by omega) ?_
      simp only [go_sem, decide_true]
end Go.Proofs.YteegphdelekdaaaGreat
