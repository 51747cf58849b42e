/- Texts of ours, joined: YteegphdelekdaaaGreatH67. -/
import Derived.Test.YteegphdelekdaaaGreatE12
set_option linter.unusedVariables false
set_option linter.unusedSimpArgs false
namespace Go.Proofs.YteegphdelekdaaaGreat
open Go.Abs Go.IntWalk
set_option maxRecDepth 100000
attribute [local go_sem] eI eU eNs eN cN eChs eCh cCh eCos eCo cCo eP take_map eII
/-! StuckIn. -/
theorem i_idxC {g : FuncId} {caps : List AV} {l : List PCommand} {P : PCommand → Prop} [DecidablePred P] {H : Heap} {K : AV → Heap → Prop} (hl : l.length ≤ 1000000000)
    (hcl : ∀ x ∈ l, ∀ K : AV → Heap → Prop, K (.bool (decide (P x))) H → ACall Tryz.prog g (eCo x :: caps) H K)
    (h1 : ∀ (i : Nat) x, l[i]? = some x → P x → K (I64 i) H) (h2 : (∀ x ∈ l, ¬ P x) → K (I64 (-1)) H) : ACall Tryz.prog 130 [eCos l, .fn g caps] H K := by
  refine call130 (by simp) ?_
  simp only [Tryz.results130, Tryz.ntmps130, Tryz.f130, Option.getD_some, pl130]
  simp only [go_sem]
  refine ALoop.intro (pl := pl130) (fun k env H' => ∃ i : Nat, H' = H ∧ env 0 = eCos l ∧ env 1 = .fn g caps ∧ env 7 = I64 l.length ∧ env 8 = I64 i ∧ i + k = l.length ∧ ∀ x ∈ l.take i, ¬ P x) l.length (by kernel_rfl) ?_ ?_
  · simp only [go_sem]
    exact ⟨0, by simp⟩
  · rintro k env H' ⟨i, rfl, e0, e1, e7, e8, hk, ht⟩
    by_cases hz : (i : Int) < l.length
    · obtain ⟨x, hx⟩ := get_some (l := l) (i := i) (by omega)
      have hw : IntKind.wrap .i64 ((i : Int) + 1) = i + 1 := i64_in _ (by omega)
      have h0 : (0 : Int) ≤ i := by omega
      simp only [go_sem, e0, e1, e7, e8, hz, hx, h0]
      refine hcl x (List.mem_of_getElem? hx) _ ?_
      by_cases hp : P x
      · simp only [go_sem, hp]
        exact h1 i x hx hp
      · simp only [go_sem, e0, e1, e7, e8, hp, hw]
        refine ⟨k - 1, by omega, i + 1, rfl, by omega, ?_⟩
        intro y hy
        rw [take_one hx] at hy
        rcases List.mem_append.1 hy with hy | hy
        · exact ht y hy
        · rw [List.mem_singleton.1 hy]; exact hp
    · simp only [go_sem, e7, e8, hz]
      rw [List.take_of_length_le (by omega)] at ht
      exact h2 ht
theorem i_contC {g : FuncId} {caps : List AV} {l : List PCommand} {P : PCommand → Prop} [DecidablePred P] {H : Heap} {K : AV → Heap → Prop} (hl : l.length ≤ 1000000000)
    (hcl : ∀ x ∈ l, ∀ K : AV → Heap → Prop, K (.bool (decide (P x))) H → ACall Tryz.prog g (eCo x :: caps) H K)
    (h1 : (∃ x, x ∈ l ∧ P x) → K (.bool true) H) (h2 : (∀ x ∈ l, ¬ P x) → K (.bool false) H) : ACall Tryz.prog 93 [eCos l, .fn g caps] H K := by
  refine call93 (by simp) ?_
  simp only [Tryz.results93, Tryz.ntmps93, Tryz.f93, Option.getD_some, pl93]
  simp only [go_sem]
  refine i_idxC (l := l) (P := P) hl hcl (fun i x hx hp => ?_) fun hno => ?_
  · have h0 : (0 : Int) ≤ i := by omega
    simp only [go_sem, h0]
    exact h1 ⟨x, List.mem_of_getElem? hx, hp⟩
  · simp only [go_sem]
    exact h2 hno
theorem c_stuckCl {p : PProg} {s : List Nat} {x : PCommand} {w v i1 i2 v1 v2 : Nat} (h : Sm p w v) (hx : cmdOk w v x) (hs : s.length = v) (hsw : ∀ y ∈ s, y < 2 ^ w) (hne : i1 ≠ i2) {H : Heap} {K : AV → Heap → Prop}
    (h1 : H i1 = .cells v1 36 1 [I64 p.1, I64 p.2.1, eNs p.2.2.1, eCos p.2.2.2]) (h2 : H i2 = .cells v2 26 1 [eU s]) (hK : K (.bool (decide (evalT w x.1 s = 1))) H) : ACall Tryz.prog 94 [eCo x, .ptr i1 v1 0, .ptr i2 v2 0] H K := by
  have r1 : ∀ ρ, Blk.ren ρ (.cells v1 36 1 [I64 p.1, I64 p.2.1, eNs p.2.2.1, eCos p.2.2.2]) = .cells v1 36 1 [I64 p.1, I64 p.2.1, eNs p.2.2.1, eCos p.2.2.2] := fun ρ => rfl
  have r2 : ∀ ρ, Blk.ren ρ (.cells v2 26 1 [eU s]) = .cells v2 26 1 [eU s] := fun ρ => rfl
  refine ACall.hand [i1, i2] [.cells v1 36 1 [I64 p.1, I64 p.2.1, eNs p.2.2.1, eCos p.2.2.2], .cells v2 26 1 [eU s]] (by simp [hne]) ⟨by rw [r1]; exact h1, by rw [r2]; exact h2, trivial⟩ rfl
    (args' := [eCo x, .ptr 1000000 v1 0, .ptr 1000001 v2 0]) rfl rfl (R := fun r H' => r = .bool (decide (evalT w x.1 s = 1)) ∧ H' 1000000 = .cells v1 36 1 [I64 p.1, I64 p.2.1, eNs p.2.2.1, eCos p.2.2.2] ∧ H' 1000001 = .cells v2 26 1 [eU s]) ?_ ?_
  · refine call94 (by simp) ?_
    simp only [Tryz.results94, Tryz.ntmps94, Tryz.f94, Option.getD_some, pl94]
    have q1 : hp [.cells v1 36 1 [I64 p.1, I64 p.2.1, eNs p.2.2.1, eCos p.2.2.2], .cells v2 26 1 [eU s]] 1000000 = .cells v1 36 1 [I64 p.1, I64 p.2.1, eNs p.2.2.1, eCos p.2.2.2] := rfl
    have q2 : hp [.cells v1 36 1 [I64 p.1, I64 p.2.1, eNs p.2.2.1, eCos p.2.2.2], .cells v2 26 1 [eU s]] 1000001 = .cells v2 26 1 [eU s] := rfl
    generalize hp [.cells v1 36 1 [I64 p.1, I64 p.2.1, eNs p.2.2.1, eCos p.2.2.2], .cells v2 26 1 [eU s]] = H2 at q1 q2
    simp only [go_sem, q1, q2]
    refine c_holdsI (p := p) (w := w) (vars := v) (t := x.1) (s := s) h.e1 (by rw [hx.1]; omega) hs hsw ?_
    simp only [go_sem, q1, q2]
  · rintro r H' ⟨rfl, h3, h4⟩
    refine ⟨_, [.cells v1 36 1 [I64 p.1, I64 p.2.1, eNs p.2.2.1, eCos p.2.2.2], .cells v2 26 1 [eU s]], ⟨h3, h4, trivial⟩, rfl, rfl, .keep _ rfl, ?_⟩
    simp only [lays, r1, r2]
    rw [← h1, upd_self, ← h2, upd_self]
    exact hK
def stuckL (w v : Nat) (cmds : List PCommand) (R : List Int) : List Int := R.filter fun x => decide (nxts w (stOf w v x.toNat) cmds = [])
theorem stuck_app {w v : Nat} {cmds : List PCommand} {R : List Int} {x : Int} : stuckL w v cmds (R ++ [x]) = if nxts w (stOf w v x.toNat) cmds = [] then stuckL w v cmds R ++ [x] else stuckL w v cmds R := by
  unfold stuckL
  rw [List.filter_append]
  by_cases h : nxts w (stOf w v x.toNat) cmds = []
  · rw [if_pos h, List.filter_cons_of_pos (by simp [h])]; rfl
  · rw [if_neg h, List.filter_cons_of_neg (by simp [h])]; simp
theorem stuck_len {w v : Nat} {cmds : List PCommand} {R : List Int} : (stuckL w v cmds R).length ≤ R.length := List.length_filter_le _ _
noncomputable def stuckOfP (p : PProg) : List Int := if smallP p then stuckL p.1.toNat p.2.1.toNat p.2.2.2 (reachP p p.1.toNat p.2.1.toNat) else []
theorem stuckOf_eq {p : PProg} {w v : Nat} (h : Sm p w v) : stuckOfP p = stuckL w v p.2.2.2 (reachP p w v) := by
  unfold stuckOfP
  rw [if_pos h.small, (sm_eq h).1, (sm_eq h).2]
theorem stuckOf_nil {p : PProg} (hn : ¬ smallP p) : stuckOfP p = [] := if_neg hn
theorem stuckOf_len {p : PProg} : (stuckOfP p).length ≤ 1000 := by
  by_cases hs : smallP p
  · obtain ⟨w, v, h⟩ := sm_of hs
    rw [stuckOf_eq h]
    have := reachP_len h
    have := stuck_len (w := w) (v := v) (cmds := p.2.2.2) (R := reachP p w v)
    omega
  · rw [stuckOf_nil hs]; simp
/-- The same with the block where it was made. -/
def OutS (ok : Prop) (res : List Int) (s : Nat) (b : Blk) (r : AV) (H' : Heap) : Prop :=
  (ok ∧ ∃ ver, r = .tup [.ref s ver 0 res.length, .bool true] ∧ H' s = .cells ver 3 1 (res.map I64)) ∨ (¬ ok ∧ r = .tup [.nil, .bool false] ∧ H' 1000000 = b)
theorem outS_L {g : FuncId} {args : List AV} {ok : Prop} {res : List Int} {s : Nat} {b : Blk} {H : Heap} (hs : s < 1000000) (h : ACall Tryz.prog g args H (OutS ok res s b)) : ACall Tryz.prog g args H (OutL ok res b) := by
  refine ACall.own 1000000 (by omega) h ?_
  rintro r H' (⟨h, ver, rfl, h3⟩ | ⟨h, rfl, h3⟩)
  · refine .inl ⟨s, ver, 3, 1, _, .tup [.ref 1000000 _ 0 res.length, .bool true], hs, h3, .tup _ _ rfl fun i x y hx hy => ?_, .inl ⟨h, _, rfl, upd_same ..⟩⟩
    match i with
    | 0 => simp at hx hy; subst hx hy; exact .ref ..
    | 1 => simp at hx hy; subst hx hy; exact .same _
    | i + 2 => simp at hx
  · exact .inr (.inr (.inr ⟨h, rfl, h3⟩))
theorem ks_stuckI {p : PProg} (hw : wfP p) (hsm : smProgram p) {H : Heap} {v0 : Nat} (hg : H 1000000 = .gone v0) : ACall Tryz.prog 45 [eP p] H (OutS (smallP p) (stuckOfP p) 11 (.gone v0)) := by
  generalize hR : OutS (smallP p) (stuckOfP p) 11 (.gone v0) = R
  have bad : ¬ smallP p → ∀ H' : Heap, H' 1000000 = .gone v0 → R (.tup [.nil, .bool false]) H' := fun h H' h2 => by rw [← hR]; exact .inr ⟨h, rfl, h2⟩
  refine call45 (by simp) ?_
  simp only [Tryz.results45, Tryz.ntmps45, Tryz.f45, Option.getD_some, pl45]
  simp only [go_sem]
  refine c_smallI (p := p) hw hsm ?_
  by_cases hs : smallP p
  · obtain ⟨w, v, h⟩ := sm_of hs
    have hn32 := h.n32
    have heq := stuckOf_eq h
    have hrl := reachP_len h
    have hrin := reachP_in h
    simp only [go_sem, hs]
    refine c_reachI (p := p) h ?_
    delta eI
    generalize reachP p w v = L at hrl hrin heq
    simp only [go_sem]
    refine ALoop.intro (pl := pl45) (fun k env H => ∃ (i v1 sv : Nat), env 1 = .ptr 1 v1 0 ∧ env 4 = .ref 11 sv 0 (stuckL w v p.2.2.2 (L.take i)).length ∧ env 13 = eI L ∧ env 14 = I64 L.length ∧ env 15 = I64 i ∧ H 1 = .cells v1 36 1 [I64 p.1, I64 p.2.1, eNs p.2.2.1, eCos p.2.2.2] ∧ H 11 = .cells sv 3 1 ((stuckL w v p.2.2.2 (L.take i)).map I64) ∧ i + k = L.length) L.length (by kernel_rfl) ?_ ?_
    · simp only [go_sem]
      exact ⟨0, _, _, rfl, rfl, rfl, rfl, rfl, by omega⟩
    · rintro k env H ⟨i, v1, sv, e1, e4, e13, e14, e15, b1, b11, hk⟩
      have hwi : IntKind.wrap .i64 ((i : Int) + 1) = i + 1 := i64_in _ (by omega)
      have hsl := stuck_len (w := w) (v := v) (cmds := p.2.2.2) (R := L.take i)
      rw [List.length_take] at hsl
      by_cases hz : (i : Int) < L.length
      · have h0 : (0 : Int) ≤ i := by omega
        obtain ⟨x, hx⟩ := get_some (l := L) (i := i) (by omega)
        have hxin := hrin x (List.mem_of_getElem? hx)
        obtain ⟨n, rfl⟩ : ∃ n : Nat, x = n := ⟨x.toNat, by have := hxin.1; omega⟩
        have hn : n < 2 ^ (w * v) := by have := hxin.2; omega
        have hsucc := stuck_app (w := w) (v := v) (cmds := p.2.2.2) (R := L.take i) (x := (n : Int))
        rw [← take_one hx, Int.toNat_natCast] at hsucc
        simp only [go_sem, pl45, e1, e4, e13, e14, e15, b1, b11, hz, h0, hx]
        refine c_stI (p := p) (w := w) (v := v) (no := n) h.e1 h.e2 h.w1 (by have := h.w5; omega) h.v4 h.wv (by omega) ?_
        simp only [go_sem, pl45, e1, e4, e13, e14, e15, b1, b11, hz, h0, hx]
        refine i_contC (l := p.2.2.2) (P := fun c => evalT w c.1 (stOf w v n) = 1) (by have := h.len; omega) (fun c hc K hK => c_stuckCl (s := stOf w v n) h (h.ok c hc) (stOf_len _ _ _) stOf_lt (by omega) (by simp only [go_sem, b1]) (by simp only [go_sem]) hK) (fun hex => ?_) fun hno => ?_
        · have hne : ¬ nxts w (stOf w v n) p.2.2.2 = [] := fun e => by
            obtain ⟨c, hc, hp⟩ := hex
            exact nxts_nil.1 e c hc hp
          rw [if_neg hne] at hsucc
          simp only [go_sem, pl45, e1, e4, e13, e14, e15, b1, b11, hz, h0, hx, hwi]
          exact ⟨k - 1, by omega, i + 1, v1, sv, rfl, by rw [hsucc], rfl, rfl, by rw [hsucc], by omega⟩
        · rw [if_pos (nxts_nil.2 hno)] at hsucc
          simp only [go_sem, pl45, e1, e4, e13, e14, e15, b1, b11, hz, h0, hx, hwi]
          refine ⟨by omega, k - 1, by omega, i + 1, v1, sv + 1, rfl, ?_, rfl, rfl, ?_, by omega⟩
          · rw [hsucc, List.length_append]; rfl
          · rw [hsucc, List.map_append]; rfl
      · simp only [go_sem, pl45, e1, e4, e13, e14, e15, b1, b11, hz]
        rw [List.take_of_length_le (by omega)] at b11 ⊢
        rw [← heq] at b11 ⊢
        rw [← hR]
        exact .inl ⟨hs, sv, rfl, b11⟩
  · simp only [go_sem, hs]
    exact bad hs _ (by simp [upd]; exact hg)
theorem k_stuckI {p : PProg} (hw : wfP p) (hsm : smProgram p) {H : Heap} {v0 : Nat} (hg : H 1000000 = .gone v0) : ACall Tryz.prog 45 [eP p] H (OutL (smallP p) (stuckOfP p) (.gone v0)) := outS_L (by omega) (ks_stuckI hw hsm hg)
theorem c_stuckI {p : PProg} (hw : wfP p) (hsm : smProgram p) {H : Heap} {K : AV → Heap → Prop} (hK : K (.tup [eI (stuckOfP p), .bool (decide (smallP p))]) H) : ACall Tryz.prog 45 [eP p] H K := frozL (views_closed _ rfl) (k_stuckI hw hsm rfl) stuckOf_nil hK
theorem c_stuckS {p : PProg} (hw : wfP p) (hsm : smProgram p) {H : Heap} {K : AV → Heap → Prop} (hK : K (.tup [eI (stuckOfP p), .bool (decide (smallP p))]) H) : ACall Tryz.prog 44 [eP p] H K := by
  refine ACall.pure (R := fun r H' => (smallP p ∧ ∃ ver, r = .tup [.ref 900 ver 0 (stuckOfP p).length, .bool true] ∧ H' 900 = .cells ver 3 1 ((stuckOfP p).map I64)) ∨ (¬ smallP p ∧ r = .tup [.nil, .bool false])) rfl ?_ ?_
  · generalize hR : (fun (r : AV) (H' : Heap) => (smallP p ∧ ∃ ver, r = AV.tup [.ref 900 ver 0 (stuckOfP p).length, .bool true] ∧ H' 900 = Blk.cells ver 3 1 ((stuckOfP p).map I64)) ∨ (¬ smallP p ∧ r = AV.tup [.nil, .bool false])) = R
    have bad : ¬ smallP p → ∀ H' : Heap, R (.tup [.nil, .bool false]) H' := fun h H' => by rw [← hR]; exact .inr ⟨h, rfl⟩
    refine call44 (by simp) ?_
    simp only [Tryz.results44, Tryz.ntmps44, Tryz.f44, Option.getD_some, pl44]
    simp only [go_sem]
    refine c_smallS (p := p) hw hsm ?_
    by_cases hs : smallP p
    · obtain ⟨w, v, h⟩ := sm_of hs
      have hn32 := h.n32
      have heq := stuckOf_eq h
      have hrl := reachP_len h
      have hrin := reachP_in h
      simp only [go_sem, hs]
      refine c_reachS (p := p) h ?_
      delta eI
      generalize reachP p w v = L at hrl hrin heq
      simp only [go_sem]
      refine ALoop.thaw 900 3 1 (t := 4) (by simp only [go_sem]) ?_
      refine ALoop.intro (pl := pl44) (fun k env H => ∃ (i v1 sv : Nat), env 1 = .ptr 1 v1 0 ∧ env 4 = .ref 900 sv 0 (stuckL w v p.2.2.2 (L.take i)).length ∧ env 11 = eI L ∧ env 12 = I64 L.length ∧ env 13 = I64 i ∧ H 1 = .cells v1 36 1 [I64 p.1, I64 p.2.1, eNs p.2.2.1, eCos p.2.2.2] ∧ H 900 = .cells sv 3 1 ((stuckL w v p.2.2.2 (L.take i)).map I64) ∧ i + k = L.length) L.length (by kernel_rfl) ?_ ?_
      · simp only [go_sem]
        exact ⟨0, _, _, rfl, rfl, rfl, rfl, rfl, by omega⟩
      · rintro k env H ⟨i, v1, sv, e1, e4, e11, e12, e13, b1, b9, hk⟩
        have hwi : IntKind.wrap .i64 ((i : Int) + 1) = i + 1 := i64_in _ (by omega)
        have hsl := stuck_len (w := w) (v := v) (cmds := p.2.2.2) (R := L.take i)
        rw [List.length_take] at hsl
        by_cases hz : (i : Int) < L.length
        · have h0 : (0 : Int) ≤ i := by omega
          obtain ⟨x, hx⟩ := get_some (l := L) (i := i) (by omega)
          have hxin := hrin x (List.mem_of_getElem? hx)
          obtain ⟨n, rfl⟩ : ∃ n : Nat, x = n := ⟨x.toNat, by have := hxin.1; omega⟩
          have hn : n < 2 ^ (w * v) := by have := hxin.2; omega
          have hsucc := stuck_app (w := w) (v := v) (cmds := p.2.2.2) (R := L.take i) (x := (n : Int))
          rw [← take_one hx, Int.toNat_natCast] at hsucc
          have hem := enab_map (w := w) (s := stOf w v n) (cmds := p.2.2.2) p.2.2.2.length (Nat.le_refl _)
          rw [List.take_of_length_le (Nat.le_refl _)] at hem
          simp only [go_sem, pl44, e1, e4, e11, e12, e13, b1, b9, hz, h0, hx]
          refine c_stS (p := p) (w := w) (v := v) (no := n) h.e1 h.e2 h.w1 (by have := h.w5; omega) h.v4 h.wv (by omega) ?_
          simp only [go_sem, pl44, e1, e4, e11, e12, e13, b1, b9, hz, h0, hx]
          refine c_enabS (p := p) (w := w) (v := v) h.small.1 h.e1 h.e2 (stOf_len _ _ _) stOf_lt ?_
          delta eI
          by_cases hn0 : nxts w (stOf w v n) p.2.2.2 = []
          · have hz0 : ((enab w p.2.2.2 (stOf w v n) p.2.2.2.length).length : Int) = 0 := by
              have := congrArg List.length hem
              rw [hn0, List.length_map] at this
              simp at this
              rw [this]; rfl
            rw [if_pos hn0] at hsucc
            simp only [go_sem, pl44, e1, e4, e11, e12, e13, b1, b9, hz, h0, hx, hz0, hwi]
            refine ⟨by omega, k - 1, by omega, i + 1, v1, sv + 1, rfl, ?_, rfl, rfl, ?_, by omega⟩
            · rw [hsucc, List.length_append]; rfl
            · rw [hsucc, List.map_append]; rfl
          · have hz0 : ¬ ((enab w p.2.2.2 (stOf w v n) p.2.2.2.length).length : Int) = 0 := fun e => by
              have := congrArg List.length hem
              rw [List.length_map] at this
              exact hn0 (List.eq_nil_of_length_eq_zero (by omega))
            rw [if_neg hn0] at hsucc
            simp only [go_sem, pl44, e1, e4, e11, e12, e13, b1, b9, hz, h0, hx, hz0, hwi]
            exact ⟨k - 1, by omega, i + 1, v1, sv, rfl, by rw [hsucc], rfl, rfl, by rw [hsucc], by omega⟩
        · simp only [go_sem, pl44, e1, e4, e11, e12, e13, b1, b9, hz]
          rw [List.take_of_length_le (by omega)] at b9 ⊢
          rw [← heq] at b9 ⊢
          rw [← hR]
          exact .inl ⟨hs, sv, rfl, b9⟩
    · simp only [go_sem, hs]
      exact bad hs _
  · rintro r H' (⟨h, ver, rfl, h2⟩ | ⟨h, rfl⟩)
    · rw [decide_eq_true h] at hK
      exact ⟨_, .tup2 (resI rfl rfl h2) (.cl rfl), rfl, hK⟩
    · rw [decide_eq_false h, stuckOf_nil h] at hK
      exact ⟨_, .tup2 (.frz _ _ (.nil 1)) (.cl rfl), rfl, hK⟩
/-- The law of StuckIn: true, whatever it is given. -/
theorem c_lawStuckIn {p : PProg} (hw : wfP p) (hb : bdProgram p) : ACall Tryz.prog 9 [eP p] H0 fun r _ => r = .bool true := by
  refine call9 (by simp) ?_
  simp only [Tryz.results9, Tryz.ntmps9, Tryz.f9, Option.getD_some, pl9]
  simp only [go_sem]
  refine c_szProgram (x := p) (by omega) (by omega) hb fun r hr => ?_
  by_cases h1 : r < 0
  · simp only [go_sem, h1, decide_true]
  · simp only [go_sem, h1, decide_false]
    obtain ⟨hrl, hsm⟩ := hr (by omega)
    refine c_toProgram (x := p) hsm ?_
    simp only [go_sem]
    refine c_stuckS (p := p) hw hsm ?_
    simp only [go_sem]
    have hsl : (stuckOfP p).length ≤ 1000 := stuckOf_len
    have hnil : ¬ (smallP p) → stuckOfP p = [] := fun h => stuckOf_nil h
    refine o_toProgram (p := p) 2000000 (by omega) hsm (fun i h2 h3 => ⟨0, ?_⟩) fun H1 hag1 ha => ?_
    · simp only [upd]
      repeat rw [if_neg (by omega)]
      rfl
    · have hlo1 : ∀ i, i < 2000000 → H1 i = _ := fun i hi => hag1 i (.inl hi)
      simp only [go_sem, hlo1, oP, Nat.reduceLT]
      refine lendP (p := p) (d := 2000000) (e := 1000000) (v0 := 0) (H1 := H1) (ok := smallP p) (res := stuckOfP p) rfl ha (fun i h => by simp only [upd]; repeat rw [if_neg (by omega)]) (by omega) ?_ (views_closed _ rfl) (k_stuckI (p := p) hw hsm rfl) (fun hs ver => ?_) fun hs => ?_
      · simp only [upd_hi, Nat.reduceLT, Nat.reduceLeDiff, hlo1]
        rfl
      · simp only [go_sem, hlo1, Nat.reduceLT, hs]
        refine l_eqIntS (a := stuckOfP p) (b := stuckOfP p) (frI (T := 3) rfl (by simp only [go_sem])) (.cl _ rfl) (by omega) (by omega) ?_
        simp only [go_sem, hlo1, Nat.reduceLT, hs, decide_true]
        refine c_toProgram (x := p) hsm ?_
        simp only [go_sem, hlo1, Nat.reduceLT]
        refine m_eqProgram (d := 2000000) (p := p) (q := p) (H1 := H1) rfl ha (fun i h => by simp only [upd]; repeat rw [if_neg (by omega)]) hsm hsm ?_
        simp only [go_sem, hlo1, Nat.reduceLT, decide_true]
        refine m_markProgram (d := 2000000) (p := p) (H1 := H1) rfl ha (fun i h => by simp only [upd]; repeat rw [if_neg (by omega)]) (by omega) hsm (by omega) (by omega) fun k1 H4 hag4 hk1 _ => ?_
        have hlo4 : ∀ i, i < 2000000 → H4 i = _ := fun i hi => hag4 i (.inl hi)
        have hk1' : ¬ k1 < 0 := by omega
        simp only [go_sem, hlo4, hlo1, Nat.reduceLT, hk1']
        refine l_eqIntS (a := stuckOfP p) (b := stuckOfP p) (frI (T := 3) rfl (by simp only [go_sem, hlo4, hlo1, Nat.reduceLT])) (.cl _ rfl) (by omega) (by omega) ?_
        simp only [go_sem, hlo4, hlo1, Nat.reduceLT, hs, decide_true]
        refine o_markIntS (d := 1000000) (C := (stuckOfP p).map I64) (by omega) (by simp only [go_sem, hlo4, hlo1, Nat.reduceLT]) (by simp) (cll_map fun _ => rfl) (by omega) (by omega) (by omega) ?_
        simp only [go_sem, hlo4, hlo1, Nat.reduceLT]
        refine l_heldIntS (n := (stuckOfP p).length) (k := 1) (frC (T := 3) rfl (by simp only [go_sem])) (by omega) (by omega) (by omega) ?_
        have hn0 : ¬ (1 + ((stuckOfP p).length : Int)) < 0 := by omega
        simp only [go_sem, hlo4, hlo1, Nat.reduceLT, hn0]
        refine c_toProgram (x := p) hsm ?_
        simp only [go_sem, hlo4, hlo1, Nat.reduceLT]
        refine c_stuckI (p := p) hw hsm ?_
        simp only [go_sem, hlo4, hlo1, Nat.reduceLT, hs, decide_true]
        refine c_eqIntS (a := stuckOfP p) (b := stuckOfP p) (by omega) (by omega) ?_
        simp only [go_sem, hlo4, hlo1, Nat.reduceLT, hs, decide_true]
        refine l_heldIntS (n := (stuckOfP p).length) (k := 1) (frC (T := 3) rfl (by simp only [go_sem])) (by omega) (by omega) (by omega) ?_
        simp only [go_sem, hlo4, hlo1, Nat.reduceLT, hn0]
      · have z0 : 1 + ((0 : Nat) : Int) = 1 := rfl
        have hnil := hnil hs
        simp only [go_sem, hlo1, Nat.reduceLT, hs, hnil]
        refine l_eqIntS (a := []) (b := []) (.nil 1) (.cl _ rfl) (by simp) (by simp) ?_
        simp only [go_sem, hlo1, Nat.reduceLT, hs, hnil, decide_true]
        refine c_toProgram (x := p) hsm ?_
        simp only [go_sem, hlo1, Nat.reduceLT]
        refine m_eqProgram (d := 2000000) (p := p) (q := p) (H1 := H1) rfl ha (fun i h => by simp only [upd]; repeat rw [if_neg (by omega)]) hsm hsm ?_
        simp only [go_sem, hlo1, Nat.reduceLT, decide_true]
        refine m_markProgram (d := 2000000) (p := p) (H1 := H1) rfl ha (fun i h => by simp only [upd]; repeat rw [if_neg (by omega)]) (by omega) hsm (by omega) (by omega) fun k1 H4 hag4 hk1 _ => ?_
        have hlo4 : ∀ i, i < 2000000 → H4 i = _ := fun i hi => hag4 i (.inl hi)
        have hk1' : ¬ k1 < 0 := by omega
        simp only [go_sem, hlo4, hlo1, Nat.reduceLT, hk1']
        refine l_eqIntS (a := []) (b := stuckOfP p) (.nil 1) (.cl _ rfl) (by simp) (by omega) ?_
        simp only [go_sem, hlo4, hlo1, Nat.reduceLT, hs, hnil, decide_true]
        refine n_markIntS ?_
        simp only [go_sem, hlo4, hlo1, Nat.reduceLT]
        refine l_heldIntS (n := 0) (k := 1) (.nil 1) (by omega) (by omega) (by omega) ?_
        simp only [go_sem, hlo4, hlo1, Nat.reduceLT, z0]
        refine c_toProgram (x := p) hsm ?_
        simp only [go_sem, hlo4, hlo1, Nat.reduceLT]
        refine c_stuckI (p := p) hw hsm ?_
        simp only [go_sem, hlo4, hlo1, Nat.reduceLT, hs, hnil, decide_true]
        refine c_eqIntS (a := []) (b := []) (by simp) (by simp) ?_
        simp only [go_sem, hlo4, hlo1, Nat.reduceLT, hs, hnil, decide_true]
        refine l_heldIntS (n := 0) (k := 1) (.nil 1) (by omega) (by omega) (by omega) ?_
        simp only [go_sem, hlo4, hlo1, Nat.reduceLT, z0]
end Go.Proofs.YteegphdelekdaaaGreat
