/- Texts of ours, joined: YteegphdelekdaaaGreatH67 YteegphdelekdaaaGreatH68 YteegphdelekdaaaGreatH69 YteegphdelekdaaaGreatH70 YteegphdelekdaaaGreatH71. -/
import Derived.Test.YteegphdelekdaaaGreatE12
set_option linter.unusedVariables false
set_option linter.unusedSimpArgs false
namespace Go.Proofs.YteegphdelekdaaaGreat
open Go.Abs Go.IntWalk
set_option maxRecDepth 100000
attribute [local go_sem] eI eU eNs eN cN eChs eCh cCh eCos eCo cCo eP take_map eII
/-! StuckIn. -/
theorem i_idxC {g : FuncId} {caps : List AV} {l : List PCommand} {P : PCommand → Prop} [DecidablePred P] {H : Heap} {K : AV → Heap → Prop} (hl : l.length ≤ 1000000000)
    (hcl : ∀ x ∈ l, ∀ K : AV → Heap → Prop, K (.bool (decide (P x))) H → ACall Tryz.prog g (eCo x :: caps) H K)
    (h1 : ∀ (i : Nat) x, l[i]? = some x → P x → K (I64 i) H) (h2 : (∀ x ∈ l, ¬ P x) → K (I64 (-1)) H) : ACall Tryz.prog 130 [eCos l, .fn g caps] H K := by
  refine call130 (by simp) ?_
  simp only [Tryz.results130, Tryz.ntmps130, Tryz.f130, Option.getD_some, pl130]
  simp only [go_sem]
  refine ALoop.intro (pl := pl130) (fun k env H' => ∃ i : Nat, H' = H ∧ env 0 = eCos l ∧ env 1 = .fn g caps ∧ env 7 = I64 l.length ∧ env 8 = I64 i ∧ i + k = l.length ∧ ∀ x ∈ l.take i, ¬ P x) l.length (by kernel_rfl) ?_ ?_
  · simp only [go_sem]
    exact ⟨0, by simp⟩
  · rintro k env H' ⟨i, rfl, e0, e1, e7, e8, hk, ht⟩
    by_cases hz : (i : Int) < l.length
    · obtain ⟨x, hx⟩ := get_some (l := l) (i := i) (by omega)
      have hw : IntKind.wrap .i64 ((i : Int) + 1) = i + 1 := i64_in _ (by omega)
      have h0 : (0 : Int) ≤ i := by omega
      simp only [go_sem, e0, e1, e7, e8, hz, hx, h0]
      refine hcl x (List.mem_of_getElem? hx) _ ?_
      by_cases hp : P x
      · simp only [go_sem, hp]
        exact h1 i x hx hp
      · simp only [go_sem, e0, e1, e7, e8, hp, hw]
        refine ⟨k - 1, by omega, i + 1, rfl, by omega, ?_⟩
        intro y hy
        rw [take_one hx] at hy
        rcases List.mem_append.1 hy with hy | hy
        · exact ht y hy
        · rw [List.mem_singleton.1 hy]; exact hp
    · simp only [go_sem, e7, e8, hz]
      rw [List.take_of_length_le (by omega)] at ht
      exact h2 ht
theorem i_contC {g : FuncId} {caps : List AV} {l : List PCommand} {P : PCommand → Prop} [DecidablePred P] {H : Heap} {K : AV → Heap → Prop} (hl : l.length ≤ 1000000000)
    (hcl : ∀ x ∈ l, ∀ K : AV → Heap → Prop, K (.bool (decide (P x))) H → ACall Tryz.prog g (eCo x :: caps) H K)
    (h1 : (∃ x, x ∈ l ∧ P x) → K (.bool true) H) (h2 : (∀ x ∈ l, ¬ P x) → K (.bool false) H) : ACall Tryz.prog 93 [eCos l, .fn g caps] H K := by
  refine call93 (by simp) ?_
  simp only [Tryz.results93, Tryz.ntmps93, Tryz.f93, Option.getD_some, pl93]
  simp only [go_sem]
  refine i_idxC (l := l) (P := P) hl hcl (fun i x hx hp => ?_) fun hno => ?_
  · have h0 : (0 : Int) ≤ i := by omega
    simp only [go_sem, h0]
    exact h1 ⟨x, List.mem_of_getElem? hx, hp⟩
  · simp only [go_sem]
    exact h2 hno
theorem c_stuckCl {p : PProg} {s : List Nat} {x : PCommand} {w v i1 i2 v1 v2 : Nat} (h : Sm p w v) (hx : cmdOk w v x) (hs : s.length = v) (hsw : ∀ y ∈ s, y < 2 ^ w) (hne : i1 ≠ i2) {H : Heap} {K : AV → Heap → Prop}
    (h1 : H i1 = .cells v1 36 1 [I64 p.1, I64 p.2.1, eNs p.2.2.1, eCos p.2.2.2]) (h2 : H i2 = .cells v2 26 1 [eU s]) (hK : K (.bool (decide (evalT w x.1 s = 1))) H) : ACall Tryz.prog 94 [eCo x, .ptr i1 v1 0, .ptr i2 v2 0] H K := by
  have r1 : ∀ ρ, Blk.ren ρ (.cells v1 36 1 [I64 p.1, I64 p.2.1, eNs p.2.2.1, eCos p.2.2.2]) = .cells v1 36 1 [I64 p.1, I64 p.2.1, eNs p.2.2.1, eCos p.2.2.2] := fun ρ => rfl
  have r2 : ∀ ρ, Blk.ren ρ (.cells v2 26 1 [eU s]) = .cells v2 26 1 [eU s] := fun ρ => rfl
  refine ACall.hand [i1, i2] [.cells v1 36 1 [I64 p.1, I64 p.2.1, eNs p.2.2.1, eCos p.2.2.2], .cells v2 26 1 [eU s]] (by simp [hne]) ⟨by rw [r1]; exact h1, by rw [r2]; exact h2, trivial⟩ rfl
    (args' := [eCo x, .ptr 1000000 v1 0, .ptr 1000001 v2 0]) rfl rfl (R := fun r H' => r = .bool (decide (evalT w x.1 s = 1)) ∧ H' 1000000 = .cells v1 36 1 [I64 p.1, I64 p.2.1, eNs p.2.2.1, eCos p.2.2.2] ∧ H' 1000001 = .cells v2 26 1 [eU s]) ?_ ?_
  · refine call94 (by simp) ?_
    simp only [Tryz.results94, Tryz.ntmps94, Tryz.f94, Option.getD_some, pl94]
    have q1 : hp [.cells v1 36 1 [I64 p.1, I64 p.2.1, eNs p.2.2.1, eCos p.2.2.2], .cells v2 26 1 [eU s]] 1000000 = .cells v1 36 1 [I64 p.1, I64 p.2.1, eNs p.2.2.1, eCos p.2.2.2] := rfl
    have q2 : hp [.cells v1 36 1 [I64 p.1, I64 p.2.1, eNs p.2.2.1, eCos p.2.2.2], .cells v2 26 1 [eU s]] 1000001 = .cells v2 26 1 [eU s] := rfl
    generalize hp [.cells v1 36 1 [I64 p.1, I64 p.2.1, eNs p.2.2.1, eCos p.2.2.2], .cells v2 26 1 [eU s]] = H2 at q1 q2
    simp only [go_sem, q1, q2]
    refine c_holdsI (p := p) (w := w) (vars := v) (t := x.1) (s := s) h.e1 (by rw [hx.1]; omega) hs hsw ?_
    simp only [go_sem, q1, q2]
  · rintro r H' ⟨rfl, h3, h4⟩
    refine ⟨_, [.cells v1 36 1 [I64 p.1, I64 p.2.1, eNs p.2.2.1, eCos p.2.2.2], .cells v2 26 1 [eU s]], ⟨h3, h4, trivial⟩, rfl, rfl, .keep _ rfl, ?_⟩
    simp only [lays, r1, r2]
    rw [← h1, upd_self, ← h2, upd_self]
    exact hK
def stuckL (w v : Nat) (cmds : List PCommand) (R : List Int) : List Int := R.filter fun x => decide (nxts w (stOf w v x.toNat) cmds = [])
theorem stuck_app {w v : Nat} {cmds : List PCommand} {R : List Int} {x : Int} : stuckL w v cmds (R ++ [x]) = if nxts w (stOf w v x.toNat) cmds = [] then stuckL w v cmds R ++ [x] else stuckL w v cmds R := by
  unfold stuckL
  rw [List.filter_append]
  by_cases h : nxts w (stOf w v x.toNat) cmds = []
  · rw [if_pos h, List.filter_cons_of_pos (by simp [h])]; rfl
  · rw [if_neg h, List.filter_cons_of_neg (by simp [h])]; simp
theorem stuck_len {w v : Nat} {cmds : List PCommand} {R : List Int} : (stuckL w v cmds R).length ≤ R.length := List.length_filter_le _ _
noncomputable def stuckOfP (p : PProg) : List Int := if smallP p then stuckL p.1.toNat p.2.1.toNat p.2.2.2 (reachP p p.1.toNat p.2.1.toNat) else []
theorem stuckOf_eq {p : PProg} {w v : Nat} (h : Sm p w v) : stuckOfP p = stuckL w v p.2.2.2 (reachP p w v) := by
  unfold stuckOfP
  rw [if_pos h.small, (sm_eq h).1, (sm_eq h).2]
theorem stuckOf_nil {p : PProg} (hn : ¬ smallP p) : stuckOfP p = [] := if_neg hn
theorem stuckOf_len {p : PProg} : (stuckOfP p).length ≤ 1000 := by
  by_cases hs : smallP p
  · obtain ⟨w, v, h⟩ := sm_of hs
    rw [stuckOf_eq h]
    have := reachP_len h
    have := stuck_len (w := w) (v := v) (cmds := p.2.2.2) (R := reachP p w v)
    omega
  · rw [stuckOf_nil hs]; simp
/-- The same with the block where it was made. -/
def OutS (ok : Prop) (res : List Int) (s : Nat) (b : Blk) (r : AV) (H' : Heap) : Prop :=
  (ok ∧ ∃ ver, r = .tup [.ref s ver 0 res.length, .bool true] ∧ H' s = .cells ver 3 1 (res.map I64)) ∨ (¬ ok ∧ r = .tup [.nil, .bool false] ∧ H' 1000000 = b)
theorem outS_L {g : FuncId} {args : List AV} {ok : Prop} {res : List Int} {s : Nat} {b : Blk} {H : Heap} (hs : s < 1000000) (h : ACall Tryz.prog g args H (OutS ok res s b)) : ACall Tryz.prog g args H (OutL ok res b) := by
  refine ACall.own 1000000 (by omega) h ?_
  rintro r H' (⟨h, ver, rfl, h3⟩ | ⟨h, rfl, h3⟩)
  · refine .inl ⟨s, ver, 3, 1, _, .tup [.ref 1000000 _ 0 res.length, .bool true], hs, h3, .tup _ _ rfl fun i x y hx hy => ?_, .inl ⟨h, _, rfl, upd_same ..⟩⟩
    match i with
    | 0 => simp at hx hy; subst hx hy; exact .ref ..
    | 1 => simp at hx hy; subst hx hy; exact .same _
    | i + 2 => simp at hx
  · exact .inr (.inr (.inr ⟨h, rfl, h3⟩))
theorem ks_stuckI {p : PProg} (hw : wfP p) (hsm : smProgram p) {H : Heap} {v0 : Nat} (hg : H 1000000 = .gone v0) : ACall Tryz.prog 45 [eP p] H (OutS (smallP p) (stuckOfP p) 11 (.gone v0)) := by
  generalize hR : OutS (smallP p) (stuckOfP p) 11 (.gone v0) = R
  have bad : ¬ smallP p → ∀ H' : Heap, H' 1000000 = .gone v0 → R (.tup [.nil, .bool false]) H' := fun h H' h2 => by rw [← hR]; exact .inr ⟨h, rfl, h2⟩
  refine call45 (by simp) ?_
  simp only [Tryz.results45, Tryz.ntmps45, Tryz.f45, Option.getD_some, pl45]
  simp only [go_sem]
  refine c_smallI (p := p) hw hsm ?_
  by_cases hs : smallP p
  · obtain ⟨w, v, h⟩ := sm_of hs
    have hn32 := h.n32
    have heq := stuckOf_eq h
    have hrl := reachP_len h
    have hrin := reachP_in h
    simp only [go_sem, hs]
    refine c_reachI (p := p) h ?_
    delta eI
    generalize reachP p w v = L at hrl hrin heq
    simp only [go_sem]
    refine ALoop.intro (pl := pl45) (fun k env H => ∃ (i v1 sv : Nat), env 1 = .ptr 1 v1 0 ∧ env 4 = .ref 11 sv 0 (stuckL w v p.2.2.2 (L.take i)).length ∧ env 13 = eI L ∧ env 14 = I64 L.length ∧ env 15 = I64 i ∧ H 1 = .cells v1 36 1 [I64 p.1, I64 p.2.1, eNs p.2.2.1, eCos p.2.2.2] ∧ H 11 = .cells sv 3 1 ((stuckL w v p.2.2.2 (L.take i)).map I64) ∧ i + k = L.length) L.length (by kernel_rfl) ?_ ?_
    · simp only [go_sem]
      exact ⟨0, _, _, rfl, rfl, rfl, rfl, rfl, by omega⟩
    · rintro k env H ⟨i, v1, sv, e1, e4, e13, e14, e15, b1, b11, hk⟩
      have hwi : IntKind.wrap .i64 ((i : Int) + 1) = i + 1 := i64_in _ (by omega)
      have hsl := stuck_len (w := w) (v := v) (cmds := p.2.2.2) (R := L.take i)
      rw [List.length_take] at hsl
      by_cases hz : (i : Int) < L.length
      · have h0 : (0 : Int) ≤ i := by omega
        obtain ⟨x, hx⟩ := get_some (l := L) (i := i) (by omega)
        have hxin := hrin x (List.mem_of_getElem? hx)
        obtain ⟨n, rfl⟩ : ∃ n : Nat, x = n := ⟨x.toNat, by have := hxin.1; omega⟩
        have hn : n < 2 ^ (w * v) := by have := hxin.2; omega
        have hsucc := stuck_app (w := w) (v := v) (cmds := p.2.2.2) (R := L.take i) (x := (n : Int))
        rw [← take_one hx, Int.toNat_natCast] at hsucc
        simp only [go_sem, pl45, e1, e4, e13, e14, e15, b1, b11, hz, h0, hx]
        refine c_stI (p := p) (w := w) (v := v) (no := n) h.e1 h.e2 h.w1 (by have := h.w5; omega) h.v4 h.wv (by omega) ?_
        simp only [go_sem, pl45, e1, e4, e13, e14, e15, b1, b11, hz, h0, hx]
        refine i_contC (l := p.2.2.2) (P := fun c => evalT w c.1 (stOf w v n) = 1) (by have := h.len; omega) (fun c hc K hK => c_stuckCl (s := stOf w v n) h (h.ok c hc) (stOf_len _ _ _) stOf_lt (by omega) (by simp only [go_sem, b1]) (by simp only [go_sem]) hK) (fun hex => ?_) fun hno => ?_
        · have hne : ¬ nxts w (stOf w v n) p.2.2.2 = [] := fun e => by
            obtain ⟨c, hc, hp⟩ := hex
            exact nxts_nil.1 e c hc hp
          rw [if_neg hne] at hsucc
          simp only [go_sem, pl45, e1, e4, e13, e14, e15, b1, b11, hz, h0, hx, hwi]
          exact ⟨k - 1, by omega, i + 1, v1, sv, rfl, by rw [hsucc], rfl, rfl, by rw [hsucc], by omega⟩
        · rw [if_pos (nxts_nil.2 hno)] at hsucc
          simp only [go_sem, pl45, e1, e4, e13, e14, e15, b1, b11, hz, h0, hx, hwi]
          refine ⟨by omega, k - 1, by omega, i + 1, v1, sv + 1, rfl, ?_, rfl, rfl, ?_, by omega⟩
          · rw [hsucc, List.length_append]; rfl
          · rw [hsucc, List.map_append]; rfl
      · simp only [go_sem, pl45, e1, e4, e13, e14, e15, b1, b11, hz]
        rw [List.take_of_length_le (by omega)] at b11 ⊢
        rw [← heq] at b11 ⊢
        rw [← hR]
        exact .inl ⟨hs, sv, rfl, b11⟩
  · simp only [go_sem, hs]
    exact bad hs _ (by simp [upd]; exact hg)
theorem k_stuckI {p : PProg} (hw : wfP p) (hsm : smProgram p) {H : Heap} {v0 : Nat} (hg : H 1000000 = .gone v0) : ACall Tryz.prog 45 [eP p] H (OutL (smallP p) (stuckOfP p) (.gone v0)) := outS_L (by omega) (ks_stuckI hw hsm hg)
theorem c_stuckI {p : PProg} (hw : wfP p) (hsm : smProgram p) {H : Heap} {K : AV → Heap → Prop} (hK : K (.tup [eI (stuckOfP p), .bool (decide (smallP p))]) H) : ACall Tryz.prog 45 [eP p] H K := frozL (views_closed _ rfl) (k_stuckI hw hsm rfl) stuckOf_nil hK
theorem c_stuckS {p : PProg} (hw : wfP p) (hsm : smProgram p) {H : Heap} {K : AV → Heap → Prop} (hK : K (.tup [eI (stuckOfP p), .bool (decide (smallP p))]) H) : ACall Tryz.prog 44 [eP p] H K := by
  refine ACall.pure (R := fun r H' => (smallP p ∧ ∃ ver, r = .tup [.ref 900 ver 0 (stuckOfP p).length, .bool true] ∧ H' 900 = .cells ver 3 1 ((stuckOfP p).map I64)) ∨ (¬ smallP p ∧ r = .tup [.nil, .bool false])) rfl ?_ ?_
  · generalize hR : (fun (r : AV) (H' : Heap) => (smallP p ∧ ∃ ver, r = AV.tup [.ref 900 ver 0 (stuckOfP p).length, .bool true] ∧ H' 900 = Blk.cells ver 3 1 ((stuckOfP p).map I64)) ∨ (¬ smallP p ∧ r = AV.tup [.nil, .bool false])) = R
    have bad : ¬ smallP p → ∀ H' : Heap, R (.tup [.nil, .bool false]) H' := fun h H' => by rw [← hR]; exact .inr ⟨h, rfl⟩
    refine call44 (by simp) ?_
    simp only [Tryz.results44, Tryz.ntmps44, Tryz.f44, Option.getD_some, pl44]
    simp only [go_sem]
    refine c_smallS (p := p) hw hsm ?_
    by_cases hs : smallP p
    · obtain ⟨w, v, h⟩ := sm_of hs
      have hn32 := h.n32
      have heq := stuckOf_eq h
      have hrl := reachP_len h
      have hrin := reachP_in h
      simp only [go_sem, hs]
      refine c_reachS (p := p) h ?_
      delta eI
      generalize reachP p w v = L at hrl hrin heq
      simp only [go_sem]
      refine ALoop.thaw 900 3 1 (t := 4) (by simp only [go_sem]) ?_
      refine ALoop.intro (pl := pl44) (fun k env H => ∃ (i v1 sv : Nat), env 1 = .ptr 1 v1 0 ∧ env 4 = .ref 900 sv 0 (stuckL w v p.2.2.2 (L.take i)).length ∧ env 11 = eI L ∧ env 12 = I64 L.length ∧ env 13 = I64 i ∧ H 1 = .cells v1 36 1 [I64 p.1, I64 p.2.1, eNs p.2.2.1, eCos p.2.2.2] ∧ H 900 = .cells sv 3 1 ((stuckL w v p.2.2.2 (L.take i)).map I64) ∧ i + k = L.length) L.length (by kernel_rfl) ?_ ?_
      · simp only [go_sem]
        exact ⟨0, _, _, rfl, rfl, rfl, rfl, rfl, by omega⟩
      · rintro k env H ⟨i, v1, sv, e1, e4, e11, e12, e13, b1, b9, hk⟩
        have hwi : IntKind.wrap .i64 ((i : Int) + 1) = i + 1 := i64_in _ (by omega)
        have hsl := stuck_len (w := w) (v := v) (cmds := p.2.2.2) (R := L.take i)
        rw [List.length_take] at hsl
        by_cases hz : (i : Int) < L.length
        · have h0 : (0 : Int) ≤ i := by omega
          obtain ⟨x, hx⟩ := get_some (l := L) (i := i) (by omega)
          have hxin := hrin x (List.mem_of_getElem? hx)
          obtain ⟨n, rfl⟩ : ∃ n : Nat, x = n := ⟨x.toNat, by have := hxin.1; omega⟩
          have hn : n < 2 ^ (w * v) := by have := hxin.2; omega
          have hsucc := stuck_app (w := w) (v := v) (cmds := p.2.2.2) (R := L.take i) (x := (n : Int))
          rw [← take_one hx, Int.toNat_natCast] at hsucc
          have hem := enab_map (w := w) (s := stOf w v n) (cmds := p.2.2.2) p.2.2.2.length (Nat.le_refl _)
          rw [List.take_of_length_le (Nat.le_refl _)] at hem
          simp only [go_sem, pl44, e1, e4, e11, e12, e13, b1, b9, hz, h0, hx]
          refine c_stS (p := p) (w := w) (v := v) (no := n) h.e1 h.e2 h.w1 (by have := h.w5; omega) h.v4 h.wv (by omega) ?_
          simp only [go_sem, pl44, e1, e4, e11, e12, e13, b1, b9, hz, h0, hx]
          refine c_enabS (p := p) (w := w) (v := v) h.small.1 h.e1 h.e2 (stOf_len _ _ _) stOf_lt ?_
          delta eI
          by_cases hn0 : nxts w (stOf w v n) p.2.2.2 = []
          · have hz0 : ((enab w p.2.2.2 (stOf w v n) p.2.2.2.length).length : Int) = 0 := by
              have := congrArg List.length hem
              rw [hn0, List.length_map] at this
              simp at this
              rw [this]; rfl
            rw [if_pos hn0] at hsucc
            simp only [go_sem, pl44, e1, e4, e11, e12, e13, b1, b9, hz, h0, hx, hz0, hwi]
            refine ⟨by omega, k - 1, by omega, i + 1, v1, sv + 1, rfl, ?_, rfl, rfl, ?_, by omega⟩
            · rw [hsucc, List.length_append]; rfl
            · rw [hsucc, List.map_append]; rfl
          · have hz0 : ¬ ((enab w p.2.2.2 (stOf w v n) p.2.2.2.length).length : Int) = 0 := fun e => by
              have := congrArg List.length hem
              rw [List.length_map] at this
              exact hn0 (List.eq_nil_of_length_eq_zero (by omega))
            rw [if_neg hn0] at hsucc
            simp only [go_sem, pl44, e1, e4, e11, e12, e13, b1, b9, hz, h0, hx, hz0, hwi]
            exact ⟨k - 1, by omega, i + 1, v1, sv, rfl, by rw [hsucc], rfl, rfl, by rw [hsucc], by omega⟩
        · simp only [go_sem, pl44, e1, e4, e11, e12, e13, b1, b9, hz]
          rw [List.take_of_length_le (by omega)] at b9 ⊢
          rw [← heq] at b9 ⊢
          rw [← hR]
          exact .inl ⟨hs, sv, rfl, b9⟩
    · simp only [go_sem, hs]
      exact bad hs _
  · rintro r H' (⟨h, ver, rfl, h2⟩ | ⟨h, rfl⟩)
    · rw [decide_eq_true h] at hK
      exact ⟨_, .tup2 (resI rfl rfl h2) (.cl rfl), rfl, hK⟩
    · rw [decide_eq_false h, stuckOf_nil h] at hK
      exact ⟨_, .tup2 (.frz _ _ (.nil 1)) (.cl rfl), rfl, hK⟩
/-- The law of StuckIn: true, whatever it is given. -/
theorem c_lawStuckIn {p : PProg} (hw : wfP p) (hb : bdProgram p) : ACall Tryz.prog 9 [eP p] H0 fun r _ => r = .bool true := by
  refine call9 (by simp) ?_
  simp only [Tryz.results9, Tryz.ntmps9, Tryz.f9, Option.getD_some, pl9]
  simp only [go_sem]
  refine c_szProgram (x := p) (by omega) (by omega) hb fun r hr => ?_
  by_cases h1 : r < 0
  · simp only [go_sem, h1, decide_true]
  · simp only [go_sem, h1, decide_false]
    obtain ⟨hrl, hsm⟩ := hr (by omega)
    refine c_toProgram (x := p) hsm ?_
    simp only [go_sem]
    refine c_stuckS (p := p) hw hsm ?_
    simp only [go_sem]
    have hsl : (stuckOfP p).length ≤ 1000 := stuckOf_len
    have hnil : ¬ (smallP p) → stuckOfP p = [] := fun h => stuckOf_nil h
    refine o_toProgram (p := p) 2000000 (by omega) hsm (fun i h2 h3 => ⟨0, ?_⟩) fun H1 hag1 ha => ?_
    · simp only [upd]
      repeat rw [if_neg (by omega)]
      rfl
    · have hlo1 : ∀ i, i < 2000000 → H1 i = _ := fun i hi => hag1 i (.inl hi)
      simp only [go_sem, hlo1, oP, Nat.reduceLT]
      refine lendP (p := p) (d := 2000000) (e := 1000000) (v0 := 0) (H1 := H1) (ok := smallP p) (res := stuckOfP p) rfl ha (fun i h => by simp only [upd]; repeat rw [if_neg (by omega)]) (by omega) ?_ (views_closed _ rfl) (k_stuckI (p := p) hw hsm rfl) (fun hs ver => ?_) fun hs => ?_
      · simp only [upd_hi, Nat.reduceLT, Nat.reduceLeDiff, hlo1]
        rfl
      · simp only [go_sem, hlo1, Nat.reduceLT, hs]
        refine l_eqIntS (a := stuckOfP p) (b := stuckOfP p) (frI (T := 3) rfl (by simp only [go_sem])) (.cl _ rfl) (by omega) (by omega) ?_
        simp only [go_sem, hlo1, Nat.reduceLT, hs, decide_true]
        refine c_toProgram (x := p) hsm ?_
        simp only [go_sem, hlo1, Nat.reduceLT]
        refine m_eqProgram (d := 2000000) (p := p) (q := p) (H1 := H1) rfl ha (fun i h => by simp only [upd]; repeat rw [if_neg (by omega)]) hsm hsm ?_
        simp only [go_sem, hlo1, Nat.reduceLT, decide_true]
        refine m_markProgram (d := 2000000) (p := p) (H1 := H1) rfl ha (fun i h => by simp only [upd]; repeat rw [if_neg (by omega)]) (by omega) hsm (by omega) (by omega) fun k1 H4 hag4 hk1 _ => ?_
        have hlo4 : ∀ i, i < 2000000 → H4 i = _ := fun i hi => hag4 i (.inl hi)
        have hk1' : ¬ k1 < 0 := by omega
        simp only [go_sem, hlo4, hlo1, Nat.reduceLT, hk1']
        refine l_eqIntS (a := stuckOfP p) (b := stuckOfP p) (frI (T := 3) rfl (by simp only [go_sem, hlo4, hlo1, Nat.reduceLT])) (.cl _ rfl) (by omega) (by omega) ?_
        simp only [go_sem, hlo4, hlo1, Nat.reduceLT, hs, decide_true]
        refine o_markIntS (d := 1000000) (C := (stuckOfP p).map I64) (by omega) (by simp only [go_sem, hlo4, hlo1, Nat.reduceLT]) (by simp) (cll_map fun _ => rfl) (by omega) (by omega) (by omega) ?_
        simp only [go_sem, hlo4, hlo1, Nat.reduceLT]
        refine l_heldIntS (n := (stuckOfP p).length) (k := 1) (frC (T := 3) rfl (by simp only [go_sem])) (by omega) (by omega) (by omega) ?_
        have hn0 : ¬ (1 + ((stuckOfP p).length : Int)) < 0 := by omega
        simp only [go_sem, hlo4, hlo1, Nat.reduceLT, hn0]
        refine c_toProgram (x := p) hsm ?_
        simp only [go_sem, hlo4, hlo1, Nat.reduceLT]
        refine c_stuckI (p := p) hw hsm ?_
        simp only [go_sem, hlo4, hlo1, Nat.reduceLT, hs, decide_true]
        refine c_eqIntS (a := stuckOfP p) (b := stuckOfP p) (by omega) (by omega) ?_
        simp only [go_sem, hlo4, hlo1, Nat.reduceLT, hs, decide_true]
        refine l_heldIntS (n := (stuckOfP p).length) (k := 1) (frC (T := 3) rfl (by simp only [go_sem])) (by omega) (by omega) (by omega) ?_
        simp only [go_sem, hlo4, hlo1, Nat.reduceLT, hn0]
      · have z0 : 1 + ((0 : Nat) : Int) = 1 := rfl
        have hnil := hnil hs
        simp only [go_sem, hlo1, Nat.reduceLT, hs, hnil]
        refine l_eqIntS (a := []) (b := []) (.nil 1) (.cl _ rfl) (by simp) (by simp) ?_
        simp only [go_sem, hlo1, Nat.reduceLT, hs, hnil, decide_true]
        refine c_toProgram (x := p) hsm ?_
        simp only [go_sem, hlo1, Nat.reduceLT]
        refine m_eqProgram (d := 2000000) (p := p) (q := p) (H1 := H1) rfl ha (fun i h => by simp only [upd]; repeat rw [if_neg (by omega)]) hsm hsm ?_
        simp only [go_sem, hlo1, Nat.reduceLT, decide_true]
        refine m_markProgram (d := 2000000) (p := p) (H1 := H1) rfl ha (fun i h => by simp only [upd]; repeat rw [if_neg (by omega)]) (by omega) hsm (by omega) (by omega) fun k1 H4 hag4 hk1 _ => ?_
        have hlo4 : ∀ i, i < 2000000 → H4 i = _ := fun i hi => hag4 i (.inl hi)
        have hk1' : ¬ k1 < 0 := by omega
        simp only [go_sem, hlo4, hlo1, Nat.reduceLT, hk1']
        refine l_eqIntS (a := []) (b := stuckOfP p) (.nil 1) (.cl _ rfl) (by simp) (by omega) ?_
        simp only [go_sem, hlo4, hlo1, Nat.reduceLT, hs, hnil, decide_true]
        refine n_markIntS ?_
        simp only [go_sem, hlo4, hlo1, Nat.reduceLT]
        refine l_heldIntS (n := 0) (k := 1) (.nil 1) (by omega) (by omega) (by omega) ?_
        simp only [go_sem, hlo4, hlo1, Nat.reduceLT, z0]
        refine c_toProgram (x := p) hsm ?_
        simp only [go_sem, hlo4, hlo1, Nat.reduceLT]
        refine c_stuckI (p := p) hw hsm ?_
        simp only [go_sem, hlo4, hlo1, Nat.reduceLT, hs, hnil, decide_true]
        refine c_eqIntS (a := []) (b := []) (by simp) (by simp) ?_
        simp only [go_sem, hlo4, hlo1, Nat.reduceLT, hs, hnil, decide_true]
        refine l_heldIntS (n := 0) (k := 1) (.nil 1) (by omega) (by omega) (by omega) ?_
        simp only [go_sem, hlo4, hlo1, Nat.reduceLT, z0]
end Go.Proofs.YteegphdelekdaaaGreat

set_option linter.unusedVariables false
set_option linter.unusedSimpArgs false
namespace Go.Proofs.YteegphdelekdaaaGreat
/-! Shortest ways in a graph. -/
/-- Whether a walk of d steps leads from s to t. -/
def exB (g : List (List Int)) (t : Int) : Nat → Int → Bool
  | 0, s => decide (s = t)
  | d + 1, s => (sucs g s).any (exB g t d)
/-- The first way of so many vertices, if there is one, from one of a list to t. -/
def pt (g : List (List Int)) (t : Int) : Nat → List Int → List Int
  | 0, _ => []
  | d + 1, L => match L.find? (exB g t d) with
    | none => []
    | some s => s :: pt g t d (sucs g s)
theorem pt_some {g : List (List Int)} {t s : Int} {d : Nat} {L : List Int} (h : L.find? (exB g t d) = some s) : pt g t (d + 1) L = s :: pt g t d (sucs g s) := by
  rw [pt, h]
theorem pt_len {g : List (List Int)} {t : Int} : ∀ {d : Nat} {L : List Int}, (pt g t d L).length ≤ d
  | 0, L => by simp [pt]
  | d + 1, L => by
    rw [pt]
    split
    · simp
    · have := pt_len (g := g) (t := t) (d := d) (L := sucs g ‹Int›)
      rw [List.length_cons]; omega
theorem ex_succ {g : List (List Int)} {t s : Int} {d : Nat} : exB g t (d + 1) s = true ↔ ∃ y, y ∈ sucs g s ∧ exB g t d y = true := by
  rw [exB, List.any_eq_true]
theorem ex_snoc {g : List (List Int)} {t : Int} : ∀ {d : Nat} {s : Int}, exB g t (d + 1) s = true ↔ ∃ y, exB g y d s = true ∧ t ∈ sucs g y
  | 0, s => by
    rw [ex_succ]
    constructor
    · rintro ⟨y, h1, h2⟩
      have e : y = t := by simpa [exB] using h2
      exact ⟨s, by simp [exB], e ▸ h1⟩
    · rintro ⟨y, h1, h2⟩
      have e : s = y := by simpa [exB] using h1
      exact ⟨t, e ▸ h2, by simp [exB]⟩
  | d + 1, s => by
    rw [ex_succ]
    constructor
    · rintro ⟨z, h1, h2⟩
      obtain ⟨y, h3, h4⟩ := ex_snoc.1 h2
      exact ⟨y, ex_succ.2 ⟨z, h1, h3⟩, h4⟩
    · rintro ⟨y, h1, h2⟩
      obtain ⟨z, h3, h4⟩ := ex_succ.1 h1
      exact ⟨z, h3, ex_snoc.2 ⟨y, h4, h2⟩⟩
theorem wk_ex {g : List (List Int)} {ss : List Int} : ∀ {k : Nat} {t : Int}, Wk g ss k t ↔ ∃ s, s ∈ ss ∧ ∃ j, j ≤ k ∧ exB g t j s = true
  | 0, t => by
    constructor
    · intro h; exact ⟨t, h, 0, Nat.le_refl _, by simp [exB]⟩
    · rintro ⟨s, h1, j, h2, h3⟩
      obtain rfl : j = 0 := by omega
      have e : s = t := by simpa [exB] using h3
      exact e ▸ h1
  | k + 1, t => by
    rw [Wk]
    constructor
    · rintro (h | ⟨y, h1, h2⟩)
      · obtain ⟨s, h1, j, h2, h3⟩ := wk_ex.1 h
        exact ⟨s, h1, j, by omega, h3⟩
      · obtain ⟨s, h3, j, h4, h5⟩ := wk_ex.1 h1
        exact ⟨s, h3, j + 1, by omega, ex_snoc.2 ⟨y, h5, h2⟩⟩
    · rintro ⟨s, h1, j, h2, h3⟩
      by_cases e : j ≤ k
      · exact .inl (wk_ex.2 ⟨s, h1, j, e, h3⟩)
      · obtain rfl : j = k + 1 := by omega
        obtain ⟨y, h4, h5⟩ := ex_snoc.1 h3
        exact .inr ⟨y, wk_ex.2 ⟨s, h1, k, Nat.le_refl _, h4⟩, h5⟩
theorem bk_ex {g : List (List Int)} (hg : okG g) {t : Int} : ∀ {k : Nat} {x : Int}, inN g.length x → (Bk g [t] k x ↔ ∃ j, j ≤ k ∧ exB g t j x = true)
  | 0, x, hx => by
    constructor
    · intro h; exact ⟨0, Nat.le_refl _, by have := List.mem_singleton.1 h; simp [exB, this]⟩
    · rintro ⟨j, h2, h3⟩
      obtain rfl : j = 0 := by omega
      have e : x = t := by simpa [exB] using h3
      exact List.mem_singleton.2 e
  | k + 1, x, hx => by
    rw [Bk]
    constructor
    · rintro (h | ⟨_, y, h1, h2⟩)
      · obtain ⟨j, h2, h3⟩ := (bk_ex hg hx).1 h
        exact ⟨j, by omega, h3⟩
      · obtain ⟨j, h4, h5⟩ := (bk_ex hg (suc_in hg h1)).1 h2
        exact ⟨j + 1, by omega, ex_succ.2 ⟨y, h1, h5⟩⟩
    · rintro ⟨j, h2, h3⟩
      by_cases e : j ≤ k
      · exact .inl ((bk_ex hg hx).2 ⟨j, e, h3⟩)
      · obtain rfl : j = k + 1 := by omega
        obtain ⟨y, h4, h5⟩ := ex_succ.1 h3
        exact .inr ⟨hx, y, h4, (bk_ex hg (suc_in hg h4)).2 ⟨k, Nat.le_refl _, h5⟩⟩
/-- Labels that tell how far it is to t. -/
structure Lb (g : List (List Int)) (t : Int) (st : List Int) : Prop where
  len : st.length = g.length
  far : ∀ x, inN g.length x → 0 ≤ lab st x → exB g t (lab st x).toNat x = true
  cpl : ∀ x, inN g.length x → ∀ j, exB g t j x = true → 0 ≤ lab st x ∧ lab st x ≤ j
theorem lb_of {g h : List (List Int)} (hg : okG g) (ht : Turned g h) {t : Int} (htn : inN g.length t) {st : List Int} (hd : Dist h [t] st) : Lb g t st := by
  have hs : ∀ x ∈ [t], inN g.length x := fun x hx => by rw [List.mem_singleton.1 hx]; exact htn
  have hw : ∀ {k : Nat} {x : Int}, inN g.length x → (Wk h [t] k x ↔ ∃ j, j ≤ k ∧ exB g t j x = true) := fun hx => (Wk_Bk ht hs).trans (bk_ex hg hx)
  have hl := ht.len
  have cp : ∀ x, inN g.length x → ∀ j, exB g t j x = true → 0 ≤ lab st x ∧ lab st x ≤ j := fun x hx j hj => (hd.cpl j x ((hw hx).2 ⟨j, Nat.le_refl _, hj⟩)).2
  refine ⟨hd.len.trans hl, fun x hx h0 => ?_, cp⟩
  obtain ⟨j, h1, h2⟩ := (hw hx).1 (hd.snd x (by rw [hl]; exact hx) h0)
  have := cp x hx j h2
  have e : j = (lab st x).toNat := by omega
  exact e ▸ h2
theorem Lb.suc {g : List (List Int)} (hg : okG g) {t : Int} {st : List Int} (h : Lb g t st) {s : Int} {d : Nat} (hs : inN g.length s) (hd : lab st s = (d : Int) + 1) {y : Int} (hy : y ∈ sucs g s) : exB g t d y = decide (lab st y = lab st s - 1) := by
  have hyn := suc_in hg hy
  rw [hd]
  by_cases e : lab st y = (d : Int) + 1 - 1
  · rw [decide_eq_true e]
    have := h.far y hyn (by omega)
    rw [show (lab st y).toNat = d by omega] at this
    exact this
  · rw [decide_eq_false e]
    cases hx : exB g t d y with
    | false => rfl
    | true =>
      have h1 := h.cpl y hyn d hx
      have h2 := h.cpl s hs _ (ex_succ.2 ⟨y, hy, h.far y hyn h1.1⟩)
      omega
theorem Lb.next {g : List (List Int)} (hg : okG g) {t : Int} {st : List Int} (h : Lb g t st) {s : Int} {d : Nat} (hs : inN g.length s) (hd : lab st s = (d : Int) + 1) : ∃ y, y ∈ sucs g s ∧ lab st y = lab st s - 1 := by
  have h1 := h.far s hs (by omega)
  rw [show (lab st s).toNat = d + 1 by omega] at h1
  obtain ⟨y, h2, h3⟩ := ex_succ.1 h1
  rw [h.suc hg hs hd h2] at h3
  exact ⟨y, h2, by simpa using h3⟩
theorem find_congr {α : Type} {p q : α → Bool} : ∀ {l : List α}, (∀ x ∈ l, p x = q x) → l.find? p = l.find? q
  | [], _ => rfl
  | x :: l, h => by
    rw [List.find?_cons, List.find?_cons, h x (by simp), find_congr fun y hy => h y (by simp [hy])]
theorem find_at {α : Type} {p : α → Bool} {l : List α} {i : Nat} {x : α} (hx : l[i]? = some x) (hp : p x = true) (hn : ∀ y ∈ l.take i, p y = false) : l.find? p = some x := by
  have hi := (List.getElem?_eq_some_iff.1 hx).1
  have e : l = l.take i ++ x :: l.drop (i + 1) := by
    conv => lhs; rw [← List.take_append_drop i l]
    rw [List.drop_eq_getElem_cons hi]
    have := (List.getElem?_eq_some_iff.1 hx).2
    rw [this]
  rw [e, List.find?_append, List.find?_eq_none.2 (fun y hy => by simp [hn y hy]), List.find?_cons, hp]
  rfl
/-- The nearest so far of some. -/
def Best (st : List Int) (l : List Int) (b : Int) : Prop :=
  (b = -1 ∧ ∀ s ∈ l, lab st s < 0) ∨ (b ∈ l ∧ 0 ≤ lab st b ∧ l.find? (fun s => decide (lab st s = lab st b)) = some b ∧ ∀ s ∈ l, 0 ≤ lab st s → lab st b ≤ lab st s)
theorem Best.step {st l : List Int} {b x : Int} (h : Best st l b) (hb : ∀ s ∈ l, 0 ≤ s) : Best st (l ++ [x]) (if 0 ≤ lab st x ∧ (b < 0 ∨ lab st x < lab st b) then x else b) := by
  have snoc : ∀ {P : Int → Prop}, (∀ s ∈ l, P s) → P x → ∀ s ∈ l ++ [x], P s := fun h1 h2 s hs => by
    rcases List.mem_append.1 hs with hs | hs
    · exact h1 s hs
    · rw [List.mem_singleton.1 hs]; exact h2
  by_cases hc : 0 ≤ lab st x ∧ (b < 0 ∨ lab st x < lab st b)
  · rw [if_pos hc]
    have hall : ∀ s ∈ l, 0 ≤ lab st s → lab st x < lab st s := by
      rcases h with ⟨_, h⟩ | ⟨h1, h2, h3, h4⟩
      · intro s hs h0; have := h s hs; omega
      · intro s hs h0
        have := h4 s hs h0
        have := hb b h1
        omega
    refine .inr ⟨by simp, hc.1, ?_, snoc (fun s hs h0 => by have := hall s hs h0; omega) fun _ => Int.le_refl _⟩
    rw [List.find?_append, List.find?_eq_none.2 (fun s hs => by
      have := hall s hs
      simp only [decide_eq_true_eq]
      intro e
      have := this (by omega)
      omega)]
    simp
  · rw [if_neg hc]
    rcases h with ⟨h1, h2⟩ | ⟨h1, h2, h3, h4⟩
    · refine .inl ⟨h1, snoc h2 ?_⟩
      have := hc
      omega
    · have hb0 := hb b h1
      refine .inr ⟨by simp [h1], h2, ?_, snoc h4 fun h0 => by omega⟩
      rw [List.find?_append, h3]
      rfl
theorem Best.pt {g : List (List Int)} {t : Int} {st ss : List Int} (h : Lb g t st) {b : Int} (hb : Best st ss b) (hs : ∀ x ∈ ss, inN g.length x) (h0 : 0 ≤ b) : (0 ≤ lab st b ∧ isD g ss t (lab st b).toNat) ∧ ∀ n : Nat, lab st b = n → pt g t (n + 1) ss = b :: pt g t n (sucs g b) := by
  rcases hb with ⟨h1, _⟩ | ⟨h1, h2, h3, h4⟩
  · omega
  · refine ⟨⟨h2, wk_ex.2 ⟨b, h1, _, Nat.le_refl _, h.far b (hs b h1) h2⟩, fun k hk hw => ?_⟩, fun n hn => ?_⟩
    · obtain ⟨s, h5, j, h6, h7⟩ := wk_ex.1 hw
      have h8 := h.cpl s (hs s h5) j h7
      have h9 := h4 s h5 h8.1
      omega
    · refine pt_some ?_
      rw [← h3]
      refine find_congr fun s hs1 => ?_
      have hsn := hs s hs1
      by_cases e : lab st s = lab st b
      · rw [decide_eq_true e]
        have := h.far s hsn (by omega)
        rw [show (lab st s).toNat = n by omega] at this
        exact this
      · rw [decide_eq_false e]
        cases hx : exB g t n s with
        | false => rfl
        | true =>
          have h5 := h.cpl s hsn n hx
          have h6 := h4 s hs1 h5.1
          omega
theorem Best.none {g : List (List Int)} {t : Int} {st ss : List Int} (h : Lb g t st) {b : Int} (hb : Best st ss b) (hs : ∀ x ∈ ss, inN g.length x) (h0 : b < 0) : distL g ss t = -1 := by
  rcases hb with ⟨_, h1⟩ | ⟨h1, h2, h3, h4⟩
  · refine dist_none fun k hk => ?_
    obtain ⟨s, h5, j, h6, h7⟩ := wk_ex.1 hk
    have h8 := h.cpl s (hs s h5) j h7
    have := h1 s h5
    omega
  · have := (hs b h1).1
    omega
/-- There is a nearest. -/
theorem isD_ex {g : List (List Int)} {ss : List Int} {t : Int} : ∀ {k : Nat}, Wk g ss k t → ∃ d, isD g ss t d := by
  intro k
  induction k using Nat.strongRecOn with
  | ind k ih =>
    intro hk
    by_cases h : ∃ j, j < k ∧ Wk g ss j t
    · obtain ⟨j, h1, h2⟩ := h; exact ih j h1 h2
    · exact ⟨k, hk, fun j hj hw => h ⟨j, hj, hw⟩⟩
theorem dist_yes {g : List (List Int)} {ss : List Int} {t : Int} (h : 0 ≤ distL g ss t) : ∃ d : Nat, distL g ss t = d ∧ isD g ss t d := by
  by_cases hx : ∃ d, isD g ss t d
  · obtain ⟨d, hd⟩ := hx
    exact ⟨d, dist_eq hd, hd⟩
  · have : distL g ss t = -1 := dist_none fun k hk => hx (isD_ex hk)
    omega
theorem isD_le {g : List (List Int)} {ss : List Int} {t : Int} (hg : okG g) (hi : inc ss) (hs : ∀ x ∈ ss, inN g.length x) {d : Nat} (h : isD g ss t d) : d ≤ g.length := by
  have key : ∀ m, m ≤ d → m ≤ (lv g ss m).length := by
    intro m
    induction m with
    | zero => intro _; omega
    | succ m ih =>
      intro hm
      have h1 := ih (by omega)
      have h2 := lv_grow (g := g) hi m
      by_cases e : (lv g ss (m + 1)).length = (lv g ss m).length
      · exact absurd (lv_stop hi e d t h.1) (h.2 m (by omega))
      · omega
  have := key d (Nat.le_refl _)
  have := lv_len hg hi hs d
  omega
/-- What is reached after exactly so many steps. -/
def itA (g : List (List Int)) : Nat → List Int → List Int
  | 0, l => l
  | n + 1, l => itA g n (aft g l)
theorem mem_itA {g : List (List Int)} {t : Int} : ∀ {n : Nat} {l : List Int}, t ∈ itA g n l ↔ ∃ s, s ∈ l ∧ exB g t n s = true
  | 0, l => by
    rw [itA]
    constructor
    · intro h; exact ⟨t, h, by simp [exB]⟩
    · rintro ⟨s, h1, h2⟩
      have e : s = t := by simpa [exB] using h2
      exact e ▸ h1
  | n + 1, l => by
    rw [itA, mem_itA]
    constructor
    · rintro ⟨s, h1, h2⟩
      obtain ⟨y, h3, h4⟩ := mem_aft.1 h1
      exact ⟨y, h3, ex_succ.2 ⟨s, h4, h2⟩⟩
    · rintro ⟨s, h1, h2⟩
      obtain ⟨y, h3, h4⟩ := ex_succ.1 h2
      exact ⟨y, mem_aft.2 ⟨s, h1, h3⟩, h4⟩
end Go.Proofs.YteegphdelekdaaaGreat

set_option linter.unusedVariables false
set_option linter.unusedSimpArgs false
namespace Go.Proofs.YteegphdelekdaaaGreat
open Go.Abs Go.IntWalk
set_option maxRecDepth 100000
attribute [local go_sem] eI eU eNs eN cN eChs eCh cCh eCos eCo cCo eP take_map eII
/-! The nearest way, found by the program's search. -/
theorem c_lwCl {x v : Int} {st : List Int} {i7 i12 v7 v12 : Nat} (hx : inN st.length x) (hv : inN st.length v) (h0 : 0 ≤ lab st v) (h1 : lab st v ≤ 100000) {H : Heap} {K : AV → Heap → Prop} (h7 : H i7 = .cells v7 27 1 [eI st]) (h12 : H i12 = .cells v12 3 1 [I64 v])
    (hK : K (.bool (decide (lab st x = lab st v - 1))) H) : ACall Tryz.prog 132 [I64 x, .ptr i7 v7 0, .ptr i12 v12 0] H K := by
  refine call132 (by simp) ?_
  simp only [Tryz.results132, Tryz.ntmps132, Tryz.f132, Option.getD_some, pl132]
  have hx0 : (0 : Int) ≤ x := hx.1
  have hx1 : x < (st.length : Int) := hx.2
  have hv0 : (0 : Int) ≤ v := hv.1
  have hv1 : v < (st.length : Int) := hv.2
  have hlx := lab_get (st := st) rfl hx
  have hlv := lab_get (st := st) rfl hv
  have hw : IntKind.wrap .i64 (lab st v - 1) = lab st v - 1 := i64_in _ (by omega)
  simp only [go_sem, h7, h12, hx0, hx1, hv0, hv1, hlx, hlv, hw]
  exact hK
theorem k_least {g : List (List Int)} {ss : List Int} {t : Int} (hg : okG g) (hn1 : 1 ≤ g.length) (hn2 : g.length ≤ 90) (hgl : ∀ l ∈ g, l.length ≤ 1000) (hi : inc ss) (hs : ∀ x ∈ ss, inN g.length x) (ht : inN g.length t) {H : Heap} :
    ACall Tryz.prog 102 [eII g, eI ss, eI [t]] H fun r H' => (∃ d : Nat, distL g ss t = d ∧ ∃ ver, r = .ref 49 ver 0 (pt g t (d + 1) ss).length ∧ H' 49 = .cells ver 3 1 ((pt g t (d + 1) ss).map I64)) ∨ (distL g ss t = -1 ∧ r = .nil) := by
  generalize hR : (fun (r : AV) (H' : Heap) => (∃ d : Nat, distL g ss t = d ∧ ∃ ver, r = AV.ref 49 ver 0 (pt g t (d + 1) ss).length ∧ H' 49 = Blk.cells ver 3 1 ((pt g t (d + 1) ss).map I64)) ∨ (distL g ss t = -1 ∧ r = AV.nil)) = R
  have hsl : ss.length ≤ g.length := inc_len hi hs
  refine call102 (by simp) ?_
  simp only [Tryz.results102, Tryz.ntmps102, Tryz.f102, Option.getD_some, pl102]
  simp only [go_sem]
  refine c_turned (g := g) hg hn1 hn2 hgl fun hT htT => ?_
  have htl := htT.len
  simp only [go_sem]
  refine c_steps (g := hT) (ss := [t]) htT.ok (by omega) (by omega) htT.bnd (fun x hx => by rw [List.mem_singleton.1 hx, htl]; exact ht) (by simp) fun st hd => ?_
  have hL := lb_of hg htT ht hd
  have hlen := hL.len
  simp only [go_sem]
  refine ALoop.intro (pl := pl102) (fun k env H => ∃ (i v7 : Nat) (b : Int), env 0 = eII g ∧ env 7 = .ptr 7 v7 0 ∧ env 8 = I64 b ∧ env 18 = eI ss ∧ env 19 = I64 ss.length ∧ env 20 = I64 i ∧ H 7 = .cells v7 27 1 [eI st] ∧ Best st (ss.take i) b ∧ i + k = ss.length) ss.length (by kernel_rfl) ?_ ?_
  · simp only [go_sem]
    exact ⟨0, _, -1, rfl, rfl, rfl, rfl, .inl ⟨rfl, by simp⟩, by omega⟩
  · rintro k env H ⟨i, v7, b, e0, e7, e8, e18, e19, e20, b7, hB, hk⟩
    by_cases hz : (i : Int) < ss.length
    · obtain ⟨x, hx⟩ := get_some (l := ss) (i := i) (by omega)
      have h0 : (0 : Int) ≤ i := by omega
      have hwi : IntKind.wrap .i64 ((i : Int) + 1) = i + 1 := i64_in _ (by omega)
      have hxn := hs x (List.mem_of_getElem? hx)
      have hx0 : (0 : Int) ≤ x := hxn.1
      have hx1 : x < (st.length : Int) := by rw [hlen]; exact hxn.2
      have hlx := lab_get (st := st) hlen hxn
      have hst := hB.step (x := x) fun s hs2 => (hs s (List.mem_of_mem_take hs2)).1
      rw [← take_one hx] at hst
      by_cases hp : 0 ≤ lab st x
      · by_cases hb : b < 0
        · rw [if_pos ⟨hp, .inl hb⟩] at hst
          simp only [go_sem, pl102, e0, e7, e8, e18, e19, e20, b7, hz, hx, h0, hx0, hx1, hlx, hp, hb, hwi]
          exact ⟨k - 1, by omega, i + 1, v7, x, rfl, rfl, rfl, rfl, hst, by omega⟩
        · obtain ⟨hbm, hbl⟩ : b ∈ ss.take i ∧ 0 ≤ lab st b := by
            rcases hB with ⟨h1, _⟩ | ⟨h1, h2, _⟩
            · omega
            · exact ⟨h1, h2⟩
          have hbn := hs b (List.mem_of_mem_take hbm)
          have hb0 : (0 : Int) ≤ b := hbn.1
          have hb1 : b < (st.length : Int) := by rw [hlen]; exact hbn.2
          have hlb := lab_get (st := st) hlen hbn
          by_cases hc : lab st x < lab st b
          · rw [if_pos ⟨hp, .inr hc⟩] at hst
            simp only [go_sem, pl102, e0, e7, e8, e18, e19, e20, b7, hz, hx, h0, hx0, hx1, hlx, hp, hb, hb0, hb1, hlb, hc, hwi]
            exact ⟨k - 1, by omega, i + 1, v7, x, rfl, rfl, rfl, rfl, hst, by omega⟩
          · rw [if_neg (by omega)] at hst
            simp only [go_sem, pl102, e0, e7, e8, e18, e19, e20, b7, hz, hx, h0, hx0, hx1, hlx, hp, hb, hb0, hb1, hlb, hc, hwi]
            exact ⟨k - 1, by omega, i + 1, v7, b, rfl, rfl, rfl, rfl, hst, by omega⟩
      · rw [if_neg (by omega)] at hst
        simp only [go_sem, pl102, e0, e7, e8, e18, e19, e20, b7, hz, hx, h0, hx0, hx1, hlx, hp, hwi]
        exact ⟨k - 1, by omega, i + 1, v7, b, rfl, rfl, rfl, rfl, hst, by omega⟩
    · rw [List.take_of_length_le (by omega)] at hB
      by_cases hb : b < 0
      · simp only [go_sem, pl102, e0, e7, e8, e18, e19, e20, b7, hz, hb]
        rw [← hR]
        exact .inr ⟨hB.none hL hs hb, rfl⟩
      · obtain ⟨⟨hb0, hbd⟩, hbp⟩ := hB.pt hL hs (by omega)
        have hbn : inN g.length b := by
          rcases hB with ⟨h1, _⟩ | ⟨h1, _⟩
          · omega
          · exact hs b h1
        have hle := isD_le hg hi hs hbd
        have hdd := dist_eq hbd
        obtain ⟨n, hn⟩ : ∃ n : Nat, lab st b = n := ⟨(lab st b).toNat, by omega⟩
        rw [hn, Int.toNat_natCast] at hbd hle hdd
        have hpt := hbp n hn
        generalize hW : pt g t (n + 1) ss = W at hpt
        simp only [go_sem, pl102, e0, e7, e8, e18, e19, e20, b7, hz, hb]
        refine ALoop.intro (pl := pl102) (fun k env H => ∃ (d v7 v12 sv : Nat) (v : Int) (O : List Int), env 0 = eII g ∧ env 7 = .ptr 7 v7 0 ∧ env 11 = .ref 49 sv 0 O.length ∧ env 12 = .ptr 12 v12 0 ∧ H 7 = .cells v7 27 1 [eI st] ∧ H 12 = .cells v12 3 1 [I64 v] ∧ H 49 = .cells sv 3 1 (O.map I64) ∧ inN g.length v ∧ lab st v = d ∧ O ++ pt g t d (sucs g v) = W ∧ d = k ∧ O.length + d ≤ 1000) n (by kernel_rfl) ?_ ?_
        · simp only [go_sem, e0, e7, b7]
          exact ⟨n, v7, _, _, b, [b], rfl, rfl, rfl, rfl, rfl, rfl, hbn, hn, hpt.symm, rfl, by simp; omega⟩
        · rintro k env H ⟨d, v7, v12, sv, v, O, e0, e7, e11, e12, b7, b12, b49, hvn, hvd, hO, hk, hOl⟩
          have hv0 : (0 : Int) ≤ v := hvn.1
          have hv1 : v < (st.length : Int) := by rw [hlen]; exact hvn.2
          have hv2 : v < (g.length : Int) := hvn.2
          have hlv := lab_get (st := st) hlen hvn
          have hgv := suc_at hvn
          by_cases hd0 : 0 < lab st v
          · obtain ⟨d, rfl⟩ : ∃ e, d = e + 1 := ⟨d - 1, by omega⟩
            have hsl2 : (sucs g v).length ≤ 1000 := hgl _ (List.mem_of_getElem? hgv)
            simp only [go_sem, pl102, e0, e7, e11, e12, b7, b12, b49, hv0, hv1, hv2, hlv, hgv, hd0]
            refine i_idxF (l := sucs g v) (P := fun y => lab st y = lab st v - 1) (by omega) (fun y hy K hK => c_lwCl (st := st) (by rw [hlen]; exact suc_in hg hy) (by rw [hlen]; exact hvn) (by omega) (by omega) (by simp only [go_sem, b7]) (by simp only [go_sem, b12]) hK) (fun j y hj hp hno => ?_) fun hno => ?_
            · have hyn := suc_in hg (List.mem_of_getElem? hj)
              have hj0 : (0 : Int) ≤ j := by omega
              have hjl : (j : Int) < (sucs g v).length := by have := (List.getElem?_eq_some_iff.1 hj).1; omega
              have hf : (sucs g v).find? (exB g t d) = some y := find_at hj (by rw [hL.suc hg hvn hvd (List.mem_of_getElem? hj)]; simpa using hp) fun z hz => by
                rw [hL.suc hg hvn hvd (List.mem_of_mem_take hz)]
                simpa using hno z hz
              rw [pt_some hf] at hO
              simp only [go_sem, pl102, e0, e7, e11, e12, b7, b12, b49, hv0, hv1, hv2, hlv, hgv, hd0, hj, hj0, hjl]
              refine ⟨by omega, k - 1, by omega, d, v7, _, sv + 1, y, O ++ [y], rfl, ?_, rfl, rfl, rfl, ?_, hyn, by omega, by rw [← hO]; simp, by omega, by simp; omega⟩
              · rw [List.length_append]; rfl
              · rw [List.map_append]; rfl
            · exfalso
              obtain ⟨y, h1, h2⟩ := hL.next hg hvn hvd
              exact hno y h1 h2
          · have hd00 : d = 0 := by omega
            subst hd00
            simp only [go_sem, pl102, e0, e7, e11, e12, b7, b12, b49, hv0, hv1, hv2, hlv, hgv, hd0]
            rw [pt, List.append_nil] at hO
            rw [← hR]
            refine .inl ⟨n, hdd, sv, ?_, ?_⟩
            · rw [hW, hO]
            · rw [hW, ← hO]; exact b49
theorem o_least {g : List (List Int)} {ss : List Int} {t : Int} {d id ver e : Nat} (hg : okG g) (hn1 : 1 ≤ g.length) (hn2 : g.length ≤ 90) (hgl : ∀ l ∈ g, l.length ≤ 1000) (hi : inc ss) (hs : ∀ x ∈ ss, inN g.length x) (ht : inN g.length t) (hd : distL g ss t = d) (he : 1000000 ≤ e) (hne : id ≠ e) {H : Heap} {K : AV → Heap → Prop} (hH : H id = .cells ver 3 1 [I64 t]) (hge : ∃ v0, H e = .gone v0)
    (hK : ∀ v, K (.ref e v 0 (pt g t (d + 1) ss).length) (upd H e (.cells v 3 1 ((pt g t (d + 1) ss).map I64)))) : ACall Tryz.prog 102 [eII g, eI ss, .ref id ver 0 1] H K := by
  obtain ⟨v0, hge⟩ := hge
  refine ACall.handL [e] [.gone v0] (by simp) ⟨by rw [hge]; rfl, trivial⟩ (by simp [Blk.inB]) (args' := [eII g, eI ss, eI [t]]) (.cons _ _ _ _ (.cl rfl) (.cons _ _ _ _ (.cl rfl) (.cons _ _ _ _ (.frz _ _ (frI (l := [t]) (T := 3) ?_ hH)) .nil)))
    (R := fun r H' => ∃ ver, r = .ref 1000000 ver 0 (pt g t (d + 1) ss).length ∧ H' 1000000 = .cells ver 3 1 ((pt g t (d + 1) ss).map I64)) ?_ ?_
  · simp; exact hne
  · refine ACall.named 1000000 (by omega) (s := 49) (by omega) (T := 3) (sz := 1) (len := (pt g t (d + 1) ss).length) (Q := fun cs _ => cs = (pt g t (d + 1) ss).map I64) ((k_least hg hn1 hn2 hgl hi hs ht).mono fun r H' h => ?_) ?_
    · rcases h with ⟨d2, h1, v, h2, h3⟩ | ⟨h1, _⟩
      · obtain rfl : d2 = d := by omega
        exact ⟨v, _, h2, h3, rfl⟩
      · omega
    · rintro v ver cs H' rfl
      exact ⟨ver, rfl, upd_same ..⟩
  · rintro r H' ⟨ver, rfl, h⟩
    refine ⟨[.cells ver 3 1 ((pt g t (d + 1) ss).map I64)], ⟨h, trivial⟩, rfl, ?_, rfl, ?_⟩
    · simp only [List.all_cons, List.all_nil, Bool.and_true, Blk.inB]
      exact within_plainM (fun _ => rfl) _
    · simp only [lays, Blk.ren, renL_closed _ _ (cll_map (f := I64) (l := pt g t (d + 1) ss) fun _ => rfl)]
      exact hK ver
theorem n_least {g : List (List Int)} {ss : List Int} {t : Int} {id ver : Nat} (hg : okG g) (hn1 : 1 ≤ g.length) (hn2 : g.length ≤ 90) (hgl : ∀ l ∈ g, l.length ≤ 1000) (hi : inc ss) (hs : ∀ x ∈ ss, inN g.length x) (ht : inN g.length t) (hd : distL g ss t < 0) {H : Heap} {K : AV → Heap → Prop} (hH : H id = .cells ver 3 1 [I64 t])
    (hK : K .nil H) : ACall Tryz.prog 102 [eII g, eI ss, .ref id ver 0 1] H K := by
  refine ACall.peek (R := fun r _ => r = .nil) ((k_least hg hn1 hn2 hgl hi hs ht).mono fun r H' h => ?_) (.cons _ _ _ _ (.cl rfl) (.cons _ _ _ _ (.cl rfl) (.cons _ _ _ _ (.frz _ _ (frI (l := [t]) (T := 3) rfl hH)) .nil))) fun r H' h => by subst h; exact ⟨rfl, hK⟩
  rcases h with ⟨d2, h1, _⟩ | ⟨_, h1⟩
  · omega
  · exact h1
end Go.Proofs.YteegphdelekdaaaGreat

set_option linter.unusedVariables false
set_option linter.unusedSimpArgs false
namespace Go.Abs
/-- A slice of a block of ours beside nil. -/
theorem z_refN {P : Program} {t : TypeId} {id ver off len : Nat} {H : Heap} {K : AV → Prop} : abin P .neq t (.ref id ver off len) .nil H K = ((∃ e, telem P t = some e) ∧ aisNil (.ref id ver off len) H fun b => K (.bool (!b))) := rfl
theorem z_aisR {id ver off len T sz : Nat} {cs : List AV} {H : Heap} {K : Bool → Prop} (h : H id = .cells ver T sz cs) (hl : len ≠ 0) (hK : K false) : aisNil (.ref id ver off len) H K := by
  have e : aisNil (.ref id ver off len) H K = (match H id with | .cells v T sz cs => v = ver ∧ ∀ b : Bool, (b = true → len = 0) → K b | .gone _ => False) := rfl
  rw [e, h]
  refine ⟨rfl, fun b hb => ?_⟩
  cases b with
  | false => exact hK
  | true => exact absurd (hb rfl) hl
end Go.Abs
namespace Go.Proofs.YteegphdelekdaaaGreat
open Go.Abs Go.IntWalk
set_option maxRecDepth 100000
attribute [local go_sem] eI eU eNs eN cN eChs eCh cCh eCos eCo cCo eP take_map eII
/-! The nearest way as the specification tells it. -/
/-- A list of numbers in block j of ours, or frozen. -/
def VI (j : Nat) (H : Heap) (a : AV) (l : List Int) : Prop := (∃ ver, a = .ref j ver 0 l.length ∧ H j = .cells ver 3 1 (l.map I64)) ∨ a = eI l
theorem c_hasV {j : Nat} {a : AV} {l : List Int} {x : Int} {H : Heap} {K : AV → Heap → Prop} (h : VI j H a l) (hl : l.length ≤ 1000000000) (hK : K (.bool (decide (x ∈ l))) H) : ACall Tryz.prog 70 [a, I64 x] H K := by
  rcases h with ⟨ver, rfl, hH⟩ | rfl
  · exact ACall.peek (R := fun r _ => r = .bool (decide (x ∈ l))) (c_has hl rfl) (.cons _ _ _ _ (.frz _ _ (frI (T := 3) rfl hH)) (.cons _ _ _ _ (.cl rfl) .nil)) fun r H' h => by subst h; exact ⟨rfl, hK⟩
  · exact c_has hl hK
theorem c_after8V {j : Nat} {a : AV} {p : PProg} {w v : Nat} (h : Sm p w v) {l : List Int} {H : Heap} (ha : VI j H a l) (hj : j < 1000000) (hl : ∀ x ∈ l, inN (2 ^ (w * v)) x) (hll : l.length ≤ 1000) {K : AV → Heap → Prop} (hK : ∀ H', (∀ i, i ≠ j → H' i = H i) → K (eI (aft (gOf w v p.2.2.2) l)) H') : ACall Tryz.prog 88 [eP p, a] H K := by
  rcases ha with ⟨ver, rfl, hH⟩ | rfl
  · refine ACall.handV [j] [] [] (by simp) trivial rfl (by simp [hj]) (args' := [eP p, eI l]) (.cons _ _ _ _ (.cl rfl) (.cons _ _ _ _ (.frz _ _ (frI (T := 3) (by simp) hH)) .nil)) (c_after8 (K := fun r _ => r = eI (aft (gOf w v p.2.2.2) l)) h hl hll rfl) ?_
    rintro r H' rfl
    refine ⟨_, [], trivial, rfl, rfl, .keep _ rfl, ?_⟩
    rw [ren_closed _ _ rfl]
    refine hK _ fun i hi => ?_
    simp only [lays, drops]
    rw [if_neg (by simpa using hi)]
  · exact c_after8 h hl hll (hK H fun _ _ => rfl)
theorem c_canS {p : PProg} {w v : Nat} (h : Sm p w v) {s t : Int} {n : Nat} (hs : inN (2 ^ (w * v)) s) (hn : n ≤ 1000) {H : Heap} {K : AV → Heap → Prop} (hK : K (.bool (exB (gOf w v p.2.2.2) t n s)) H) : ACall Tryz.prog 101 [eP p, I64 s, I64 t, I64 n] H K := by
  have hn32 := h.n32
  have hgl : (gOf w v p.2.2.2).length = 2 ^ (w * v) := gOf_len
  have hgo : okG (gOf w v p.2.2.2) := gOf_ok h.ok
  have hb : exB (gOf w v p.2.2.2) t n s = decide (t ∈ itA (gOf w v p.2.2.2) n [s]) := by
    rw [Bool.eq_iff_iff, decide_eq_true_eq, mem_itA]
    constructor
    · intro h; exact ⟨s, by simp, h⟩
    · rintro ⟨s2, h1, h2⟩
      rw [List.mem_singleton.1 h1] at h2; exact h2
  rw [hb] at hK
  generalize hg : gOf w v p.2.2.2 = g at *
  refine pureC rfl rfl ?_ hK
  refine call101 (by simp) ?_
  simp only [Tryz.results101, Tryz.ntmps101, Tryz.f101, Option.getD_some, pl101]
  simp only [go_sem]
  refine ALoop.intro (pl := pl101) (fun k env H => ∃ (m v4 : Nat) (a : AV) (L : List Int), env 2 = I64 t ∧ env 3 = I64 m ∧ env 4 = .ptr 4 v4 0 ∧ env 9 = a ∧ H 4 = .cells v4 36 1 [I64 p.1, I64 p.2.1, eNs p.2.2.1, eCos p.2.2.2] ∧ VI 11 H a L ∧ (∀ x ∈ L, inN (2 ^ (w * v)) x) ∧ L.length ≤ 1000 ∧ itA g m L = itA g n [s] ∧ m = k ∧ m ≤ n) n (by kernel_rfl) ?_ ?_
  · simp only [go_sem]
    exact ⟨n, _, _, [s], rfl, rfl, rfl, rfl, .inl ⟨_, rfl, rfl⟩, (fun x hx => by rw [List.mem_singleton.1 hx]; exact hs), by simp, rfl, rfl, Nat.le_refl _⟩
  · rintro k env H ⟨m, v4, a, L, e2, e3, e4, e9, b4, ha, hL, hLl, hit, hk, hmn⟩
    by_cases hz : (0 : Int) < m
    · obtain ⟨m, rfl⟩ : ∃ e, m = e + 1 := ⟨m - 1, by omega⟩
      have hw : IntKind.wrap .i64 (((m + 1 : Nat) : Int) - 1) = m := (i64_in _ (by omega)).trans (by omega)
      simp only [go_sem, pl101, e2, e3, e4, e9, b4, hz]
      refine c_after8V (j := 11) (p := p) h (l := L) ha (by omega) hL hLl fun H' hH' => ?_
      rw [hg]
      have b4' := hH' 4 (by omega)
      rw [b4] at b4'
      have hin : ∀ x ∈ aft g L, inN g.length x := aft_in hgo
      have hal := inc_len (inc_canon _) hin
      simp only [go_sem, pl101, e2, e3, e4, e9, b4', hz, hw]
      exact ⟨k - 1, by omega, m, v4, _, aft g L, rfl, rfl, rfl, rfl, .inr rfl, (fun x hx => by rw [← hgl]; exact hin x hx), Nat.le_trans hal (by omega), hit, by omega, by omega⟩
    · obtain rfl : m = 0 := by omega
      simp only [go_sem, pl101, e2, e3, e4, e9, b4, hz]
      refine c_hasV (j := 11) (l := L) (x := t) ha (by omega) ?_
      simp only [go_sem]
      rw [← hit]
      rfl
/-! PathTo. -/
def wayOk (p : PProg) (no : Int) : Prop := (stepsOf p no).2 = true
noncomputable instance (p : PProg) (no : Int) : Decidable (wayOk p no) := by unfold wayOk; infer_instance
noncomputable def wayOf (p : PProg) (no : Int) : List Int := if wayOk p no then pt (gOf p.1.toNat p.2.1.toNat p.2.2.2) no ((stepsOf p no).1.toNat + 1) (those p.1.toNat p.2.1.toNat p.2.2.1 (2 ^ (p.1.toNat * p.2.1.toNat))) else []
theorem wayOf_nil {p : PProg} {no : Int} (hn : ¬ wayOk p no) : wayOf p no = [] := if_neg hn
/-- A way there is: of so many steps, and so on. -/
theorem way_yes {p : PProg} {no : Int} (hk : wayOk p no) : ∃ w v d, Sm p w v ∧ noOk p no ∧ distP p no w v = (d : Nat) ∧ stepsOf p no = ((d : Int), true) ∧ isD (gOf w v p.2.2.2) (those w v p.2.2.1 (2 ^ (w * v))) no d ∧ d ≤ 2 ^ (w * v) ∧ wayOf p no = pt (gOf w v p.2.2.2) no (d + 1) (those w v p.2.2.1 (2 ^ (w * v))) := by
  have hno : noOk p no := Classical.byContradiction fun h => by
    unfold wayOk at hk; rw [stepsOf_bad h] at hk; cases hk
  obtain ⟨w, v, h⟩ := sm_of hno.1
  have hd : 0 ≤ distP p no w v := Classical.byContradiction fun h2 => by
    unfold wayOk at hk; rw [stepsOf_no h (by omega)] at hk; cases hk
  obtain ⟨d, h1, h2⟩ := dist_yes (g := gOf w v p.2.2.2) (ss := those w v p.2.2.1 (2 ^ (w * v))) (t := no) hd
  have hst : stepsOf p no = ((d : Int), true) := by
    rw [stepsOf_yes h hno hd]; exact congrArg (fun x => (x, true)) h1
  have hle := isD_le (gOf_ok h.ok) inc_those (fun x hx => by rw [gOf_len]; exact those_in x hx) h2
  rw [gOf_len] at hle
  refine ⟨w, v, d, h, hno, h1, hst, h2, hle, ?_⟩
  unfold wayOf
  rw [if_pos hk, (sm_eq h).1, (sm_eq h).2, hst, Int.toNat_natCast]
theorem way_no {p : PProg} {no : Int} {w v : Nat} (h : Sm p w v) (hno : noOk p no) (hk : ¬ wayOk p no) : distP p no w v < 0 := Classical.byContradiction fun h2 => hk (by unfold wayOk; rw [stepsOf_yes h hno (by omega)])
theorem wayOf_len {p : PProg} {no : Int} : (wayOf p no).length ≤ 1000 := by
  by_cases hk : wayOk p no
  · obtain ⟨w, v, d, h, _, _, _, _, hle, hw⟩ := way_yes hk
    have hn32 := h.n32
    have := pt_len (g := gOf w v p.2.2.2) (t := no) (d := d + 1) (L := those w v p.2.2.1 (2 ^ (w * v)))
    rw [hw]
    omega
  · rw [wayOf_nil hk]; simp
theorem pt_ex {g : List (List Int)} {ss : List Int} {t : Int} {d : Nat} (h : isD g ss t d) : ∃ s, s ∈ ss ∧ exB g t d s = true := by
  obtain ⟨s, h1, j, h2, h3⟩ := wk_ex.1 h.1
  by_cases e : j = d
  · exact ⟨s, h1, e ▸ h3⟩
  · exact absurd (wk_ex.2 ⟨s, h1, j, Nat.le_refl _, h3⟩) (h.2 j (by omega))
theorem find_ex {α : Type} {p : α → Bool} {L : List α} (h : ∃ s, s ∈ L ∧ p s = true) : ∃ s, L.find? p = some s ∧ s ∈ L ∧ p s = true := by
  obtain ⟨s, h1, h2⟩ := h
  cases hf : L.find? p with
  | none => exact absurd h2 (List.find?_eq_none.1 hf s h1)
  | some x => exact ⟨x, rfl, List.mem_of_find?_eq_some hf, List.find?_some hf⟩
theorem pt_pos {g : List (List Int)} {t : Int} {d : Nat} {L : List Int} (h : ∃ s, s ∈ L ∧ exB g t d s = true) : 1 ≤ (pt g t (d + 1) L).length := by
  obtain ⟨s, h1, _⟩ := find_ex h
  rw [pt_some h1, List.length_cons]; omega
theorem gOf_90 {p : PProg} {w v : Nat} (h : Sm p w v) : ∀ l ∈ gOf w v p.2.2.2, l.length ≤ 1000 := fun l hl => by
  obtain ⟨i, hi, rfl⟩ := List.mem_map.1 hl
  have := nextL_len (w := w) (v := v) (no := i) h.len
  omega
theorem k_pathToI {p : PProg} {no : Int} (hw : wfP p) (hsm : smProgram p) {H : Heap} {v0 : Nat} (hg : H 1000000 = .gone v0) : ACall Tryz.prog 49 [eP p, I64 no] H (OutL (wayOk p no) (wayOf p no) (.gone v0)) := by
  generalize hR : OutL (wayOk p no) (wayOf p no) (.gone v0) = R
  have bad : ¬ wayOk p no → ∀ H' : Heap, H' 1000000 = .gone v0 → R (.tup [.nil, .bool false]) H' := fun h H' h2 => by rw [← hR]; exact .inr ⟨h, rfl, h2⟩
  refine call49 (by simp) ?_
  simp only [Tryz.results49, Tryz.ntmps49, Tryz.f49, Option.getD_some, pl49]
  simp only [go_sem]
  refine c_noI (p := p) (no := no) hw hsm ?_
  by_cases hn : noOk p no
  · obtain ⟨w, v, h⟩ := sm_of hn.1
    have hin := (no_in h).1 hn
    have hn32 := h.n32
    have h2 := two_pos (w * v)
    simp only [go_sem, hn]
    with_reducible refine And.intro ?_ ?_
    · refine c_graph (p := p) h ?_
      simp only [go_sem]
      with_reducible refine And.intro ?_ ?_
      · refine c_where (p := p) (w := w) (v := v) (t := p.2.2.1) h.small h.e1 h.e2 (by rw [h.start]; omega) ?_
        rw [sm_many h]
        simp only [go_sem]
        by_cases hk : wayOk p no
        · obtain ⟨w2, v2, d, h3, _, hd, _, hD, hle, hway⟩ := way_yes hk
          obtain ⟨rfl, rfl⟩ : w2 = w ∧ v2 = v := by
            have := h.e1; have := h.e2; have := h3.e1; have := h3.e2
            omega
          refine o_least (g := gOf w2 v2 p.2.2.2) (ss := those w2 v2 p.2.2.1 (2 ^ (w2 * v2))) (t := no) (d := d) (e := 1000000) (gOf_ok h.ok) (by rw [gOf_len]; omega) (by rw [gOf_len]; omega) (gOf_90 h) inc_those (fun x hx => by rw [gOf_len]; exact those_in x hx) (by rw [gOf_len]; exact hin) hd (by omega) (by omega) (by simp only [go_sem]) ⟨v0, by simp only [go_sem]; exact hg⟩ fun ver => ?_
          have hpos : 1 ≤ (pt (gOf w2 v2 p.2.2.2) no (d + 1) (those w2 v2 p.2.2.1 (2 ^ (w2 * v2)))).length := pt_pos (pt_ex hD)
          rw [← hway] at hpos ⊢
          simp only [go_sem]
          rw [z_refN]
          refine ⟨⟨3, by kernel_rfl⟩, z_aisR (upd_same ..) (by omega) ?_⟩
          simp only [go_sem]
          rw [← hR]
          exact .inl ⟨hk, ver, rfl, by simp⟩
        · refine n_least (g := gOf w v p.2.2.2) (ss := those w v p.2.2.1 (2 ^ (w * v))) (t := no) (gOf_ok h.ok) (by rw [gOf_len]; omega) (by rw [gOf_len]; omega) (gOf_90 h) inc_those (fun x hx => by rw [gOf_len]; exact those_in x hx) (by rw [gOf_len]; exact hin) (way_no h hn hk) (by simp only [go_sem]) ?_
          simp only [go_sem]
          exact ⟨⟨_, rfl⟩, bad hk _ (by simp [upd]; exact hg)⟩
      · refine c_where (p := p) (w := w) (v := v) (t := p.2.2.1) h.small h.e1 h.e2 (by rw [h.start]; omega) ?_
        rw [sm_many h]
        simp only [go_sem]
        by_cases hk : wayOk p no
        · obtain ⟨w2, v2, d, h3, _, hd, _, hD, hle, hway⟩ := way_yes hk
          obtain ⟨rfl, rfl⟩ : w2 = w ∧ v2 = v := by
            have := h.e1; have := h.e2; have := h3.e1; have := h3.e2
            omega
          refine o_least (g := gOf w2 v2 p.2.2.2) (ss := those w2 v2 p.2.2.1 (2 ^ (w2 * v2))) (t := no) (d := d) (e := 1000000) (gOf_ok h.ok) (by rw [gOf_len]; omega) (by rw [gOf_len]; omega) (gOf_90 h) inc_those (fun x hx => by rw [gOf_len]; exact those_in x hx) (by rw [gOf_len]; exact hin) hd (by omega) (by omega) (by simp only [go_sem]) ⟨v0, by simp only [go_sem]; exact hg⟩ fun ver => ?_
          have hpos : 1 ≤ (pt (gOf w2 v2 p.2.2.2) no (d + 1) (those w2 v2 p.2.2.1 (2 ^ (w2 * v2)))).length := pt_pos (pt_ex hD)
          rw [← hway] at hpos ⊢
          simp only [go_sem]
          rw [z_refN]
          refine ⟨⟨3, by kernel_rfl⟩, z_aisR (upd_same ..) (by omega) ?_⟩
          simp only [go_sem]
          rw [← hR]
          exact .inl ⟨hk, ver, rfl, by simp⟩
        · refine n_least (g := gOf w v p.2.2.2) (ss := those w v p.2.2.1 (2 ^ (w * v))) (t := no) (gOf_ok h.ok) (by rw [gOf_len]; omega) (by rw [gOf_len]; omega) (gOf_90 h) inc_those (fun x hx => by rw [gOf_len]; exact those_in x hx) (by rw [gOf_len]; exact hin) (way_no h hn hk) (by simp only [go_sem]) ?_
          simp only [go_sem]
          exact ⟨⟨_, rfl⟩, bad hk _ (by simp [upd]; exact hg)⟩
    · refine c_graph (p := p) h ?_
      simp only [go_sem]
      refine c_where (p := p) (w := w) (v := v) (t := p.2.2.1) h.small h.e1 h.e2 (by rw [h.start]; omega) ?_
      rw [sm_many h]
      simp only [go_sem]
      by_cases hk : wayOk p no
      · obtain ⟨w2, v2, d, h3, _, hd, _, hD, hle, hway⟩ := way_yes hk
        obtain ⟨rfl, rfl⟩ : w2 = w ∧ v2 = v := by
          have := h.e1; have := h.e2; have := h3.e1; have := h3.e2
          omega
        refine o_least (g := gOf w2 v2 p.2.2.2) (ss := those w2 v2 p.2.2.1 (2 ^ (w2 * v2))) (t := no) (d := d) (e := 1000000) (gOf_ok h.ok) (by rw [gOf_len]; omega) (by rw [gOf_len]; omega) (gOf_90 h) inc_those (fun x hx => by rw [gOf_len]; exact those_in x hx) (by rw [gOf_len]; exact hin) hd (by omega) (by omega) (by simp only [go_sem]) ⟨v0, by simp only [go_sem]; exact hg⟩ fun ver => ?_
        have hpos : 1 ≤ (pt (gOf w2 v2 p.2.2.2) no (d + 1) (those w2 v2 p.2.2.1 (2 ^ (w2 * v2)))).length := pt_pos (pt_ex hD)
        rw [← hway] at hpos ⊢
        simp only [go_sem]
        rw [z_refN]
        refine ⟨⟨3, by kernel_rfl⟩, z_aisR (upd_same ..) (by omega) ?_⟩
        simp only [go_sem]
        rw [← hR]
        exact .inl ⟨hk, ver, rfl, by simp⟩
      · refine n_least (g := gOf w v p.2.2.2) (ss := those w v p.2.2.1 (2 ^ (w * v))) (t := no) (gOf_ok h.ok) (by rw [gOf_len]; omega) (by rw [gOf_len]; omega) (gOf_90 h) inc_those (fun x hx => by rw [gOf_len]; exact those_in x hx) (by rw [gOf_len]; exact hin) (way_no h hn hk) (by simp only [go_sem]) ?_
        simp only [go_sem]
        exact ⟨⟨_, rfl⟩, bad hk _ (by simp [upd]; exact hg)⟩
  · simp only [go_sem, hn]
    exact bad (fun h => hn (by obtain ⟨_, _, _, _, h3, _⟩ := way_yes h; exact h3)) _ (by simp [upd]; exact hg)
end Go.Proofs.YteegphdelekdaaaGreat

set_option linter.unusedVariables false
set_option linter.unusedSimpArgs false
namespace Go.Proofs.YteegphdelekdaaaGreat
open Go.Abs Go.IntWalk
set_option maxRecDepth 100000
attribute [local go_sem] eI eU eNs eN cN eChs eCh cCh eCos eCo cCo eP take_map eII
/-! PathTo: the specification and the law. -/
theorem c_pathToI {p : PProg} {no : Int} (hw : wfP p) (hsm : smProgram p) {H : Heap} {K : AV → Heap → Prop} (hK : K (.tup [eI (wayOf p no), .bool (decide (wayOk p no))]) H) : ACall Tryz.prog 49 [eP p, I64 no] H K := frozL (views_closed _ rfl) (k_pathToI hw hsm rfl) wayOf_nil hK
theorem c_pathToS {p : PProg} {no : Int} (hw : wfP p) (hsm : smProgram p) {H : Heap} {K : AV → Heap → Prop} (hK : K (.tup [eI (wayOf p no), .bool (decide (wayOk p no))]) H) : ACall Tryz.prog 48 [eP p, I64 no] H K := by
  refine ACall.pure (R := fun r H' => (wayOk p no ∧ ∃ ver, r = .tup [.ref 900 ver 0 (wayOf p no).length, .bool true] ∧ H' 900 = .cells ver 3 1 ((wayOf p no).map I64)) ∨ (¬ wayOk p no ∧ r = .tup [.nil, .bool false])) rfl ?_ ?_
  · generalize hR : (fun (r : AV) (H' : Heap) => (wayOk p no ∧ ∃ ver, r = AV.tup [.ref 900 ver 0 (wayOf p no).length, .bool true] ∧ H' 900 = Blk.cells ver 3 1 ((wayOf p no).map I64)) ∨ (¬ wayOk p no ∧ r = AV.tup [.nil, .bool false])) = R
    refine call48 (by simp) ?_
    simp only [Tryz.results48, Tryz.ntmps48, Tryz.f48, Option.getD_some, pl48]
    simp only [go_sem]
    refine c_stepsToS (p := p) (no := no) hw hsm ?_
    by_cases hk : wayOk p no
    · obtain ⟨w, v, d, h, hn, hd, hst, hD, hle, hway⟩ := way_yes hk
      have hn32 := h.n32
      have hgl : (gOf w v p.2.2.2).length = 2 ^ (w * v) := gOf_len
      have hgo : okG (gOf w v p.2.2.2) := gOf_ok h.ok
      have hx := pt_ex hD
      have hsin : ∀ x ∈ those w v p.2.2.1 (2 ^ (w * v)), inN (2 ^ (w * v)) x := fun x hx => those_in x hx
      have hsl : (those w v p.2.2.1 (2 ^ (w * v))).length ≤ 1000 := Nat.le_trans those_len (by omega)
      rw [hst]
      simp only [go_sem]
      refine c_those (p := p) (w := w) (v := v) (t := p.2.2.1) h.small h.e1 h.e2 (by rw [h.start]; omega) ?_
      rw [sm_many h]
      simp only [go_sem]
      generalize those w v p.2.2.1 (2 ^ (w * v)) = ss at hx hsin hsl hway
      generalize hW : wayOf p no = W at hway hR
      refine ALoop.thaw 900 3 1 (t := 8) (by simp only [go_sem]) ?_
      refine ALoop.intro (pl := pl48) (fun k env H => ∃ (m v2 sv : Nat) (O L : List Int), env 1 = I64 no ∧ env 2 = .ptr 2 v2 0 ∧ env 6 = I64 ((m : Int) - 1) ∧ env 8 = .ref 900 sv 0 O.length ∧ env 9 = eI L ∧ H 2 = .cells v2 36 1 [I64 p.1, I64 p.2.1, eNs p.2.2.1, eCos p.2.2.2] ∧ H 900 = .cells sv 3 1 (O.map I64) ∧ O ++ pt (gOf w v p.2.2.2) no m L = W ∧ (∀ n, m = n + 1 → ∃ s, s ∈ L ∧ exB (gOf w v p.2.2.2) no n s = true) ∧ (∀ x ∈ L, inN (2 ^ (w * v)) x) ∧ L.length ≤ 1000 ∧ m = k ∧ O.length + m ≤ 1000) (d + 1) (by kernel_rfl) ?_ ?_
      · simp only [go_sem]
        refine ⟨d + 1, _, _, [], ss, rfl, ?_, rfl, rfl, rfl, rfl, hway.symm, ?_, hsin, hsl, rfl, ?_⟩
        · rw [show ((d + 1 : Nat) : Int) - 1 = d by omega]
        · intro n hn
          obtain rfl : n = d := by omega
          exact hx
        · simp
          omega
      · rintro k env H ⟨m, v2, sv, O, L, e1, e2, e6, e8, e9, b2, b9, hO, hex, hLin, hLl, hk1, hOm⟩
        by_cases hz : (0 : Int) ≤ (m : Int) - 1
        · obtain ⟨m, rfl⟩ : ∃ e, m = e + 1 := ⟨m - 1, by omega⟩
          obtain ⟨s, hf, hsL, hsx⟩ := find_ex (hex m rfl)
          rw [pt_some hf] at hO
          rw [show ((m + 1 : Nat) : Int) - 1 = m by omega] at e6 hz
          have hwm : IntKind.wrap .i64 ((m : Int) - 1) = m - 1 := i64_in _ (by omega)
          simp only [go_sem, pl48, e1, e2, e6, e8, e9, b2, b9, hz]
          refine ALoop.intro (pl := pl48) (fun k1 env H => ∃ j : Nat, env 1 = I64 no ∧ env 2 = .ptr 2 v2 0 ∧ env 6 = I64 m ∧ env 8 = .ref 900 sv 0 O.length ∧ env 28 = eI L ∧ env 29 = I64 L.length ∧ env 30 = I64 j ∧ H 2 = .cells v2 36 1 [I64 p.1, I64 p.2.1, eNs p.2.2.1, eCos p.2.2.2] ∧ H 900 = .cells sv 3 1 (O.map I64) ∧ (∀ y ∈ L.take j, exB (gOf w v p.2.2.2) no m y = false) ∧ j + k1 = L.length) L.length (by kernel_rfl) ?_ ?_
          · simp only [go_sem, e1, e2, e6, e8, b2, b9]
            exact ⟨0, rfl, by simp, by omega⟩
          · rintro k1 env H ⟨j, e1, e2, e6, e8, e28, e29, e30, b2, b9, hno, hj⟩
            by_cases hzj : (j : Int) < L.length
            · obtain ⟨x, hx⟩ := get_some (l := L) (i := j) (by omega)
              have h0 : (0 : Int) ≤ j := by omega
              have hwj : IntKind.wrap .i64 ((j : Int) + 1) = j + 1 := i64_in _ (by omega)
              have hxin := hLin x (List.mem_of_getElem? hx)
              simp only [go_sem, pl48, e1, e2, e6, e8, e28, e29, e30, b2, b9, hzj, hx, h0]
              refine c_canS (p := p) h (s := x) (t := no) (n := m) hxin (by omega) ?_
              cases hc : exB (gOf w v p.2.2.2) no m x with
              | true =>
                have hfx := find_at hx hc hno
                rw [hf] at hfx
                injection hfx with hfx
                subst hfx
                obtain ⟨n, rfl⟩ : ∃ n : Nat, s = n := ⟨s.toNat, by have := hxin.1; omega⟩
                have hnn : n < 2 ^ (w * v) := by have := hxin.2; omega
                have hnl := nextL_len (w := w) (v := v) (no := n) h.len
                have hsuc : sucs (gOf w v p.2.2.2) (n : Int) = nextL w v p.2.2.2 n := by rw [gOf_suc (by unfold inN; omega), Int.toNat_natCast]
                have hlast : IntKind.wrap .i64 (((O.length + 1 : Nat) : Int) - 1) = O.length := (i64_in _ (by omega)).trans (by omega)
                have hl1 : (O.length : Int) < ((O.length + 1 : Nat) : Int) := by omega
                have hl0 : (0 : Int) ≤ (O.length : Int) := by omega
                have hla : (O.map I64 ++ [AV.int .i64 (n : Int)])[O.length]? = some (I64 n) := by rw [List.getElem?_append_right (by simp)]; simp
                simp only [go_sem, pl48, e1, e2, e6, e8, e28, e29, e30, b2, b9, hzj, hx, h0, hlast, hl1, hl0, hla]
                refine ⟨by omega, ?_⟩
                refine c_nextS (p := p) h (no := n) hnn ?_
                simp only [go_sem, pl48, e1, e2, e6, e8, e28, e29, e30, b2, b9, hwm]
                rw [← hsuc]
                refine ⟨k - 1, by omega, m, v2, sv + 1, O ++ [(n : Int)], sucs (gOf w v p.2.2.2) (n : Int), rfl, rfl, ?_, rfl, rfl, ?_, by rw [← hO]; simp, fun n2 hn2 => ?_, fun x hx => ?_, by rw [hsuc]; omega, by omega, by simp; omega⟩
                · rw [List.length_append]; rfl
                · rw [List.map_append]; rfl
                · subst hn2
                  exact ex_succ.1 hsx
                · rw [← hgl]; exact suc_in hgo hx
              | false =>
                simp only [go_sem, pl48, e1, e2, e6, e8, e28, e29, e30, b2, b9, hzj, hx, h0, hwj]
                refine ⟨k1 - 1, by omega, j + 1, rfl, fun y hy => ?_, by omega⟩
                rw [take_one hx] at hy
                rcases List.mem_append.1 hy with hy | hy
                · exact hno y hy
                · rw [List.mem_singleton.1 hy]; exact hc
            · exfalso
              rw [List.take_of_length_le (by omega)] at hno
              have := hno s hsL
              rw [hsx] at this
              cases this
        · obtain rfl : m = 0 := by omega
          simp only [go_sem, pl48, e1, e2, e6, e8, e9, b2, b9, hz]
          rw [pt, List.append_nil] at hO
          subst hO
          rw [← hR]
          exact .inl ⟨hk, sv, rfl, b9⟩
    · have hst : (stepsOf p no).2 = false := by
        cases hx : (stepsOf p no).2 with
        | false => rfl
        | true => exact absurd hx hk
      rw [hst]
      simp only [go_sem]
      rw [← hR]
      exact .inr ⟨hk, rfl⟩
  · rintro r H' (⟨h, ver, rfl, h2⟩ | ⟨h, rfl⟩)
    · rw [decide_eq_true h] at hK
      exact ⟨_, .tup2 (resI rfl rfl h2) (.cl rfl), rfl, hK⟩
    · rw [decide_eq_false h, wayOf_nil h] at hK
      exact ⟨_, .tup2 (.frz _ _ (.nil 1)) (.cl rfl), rfl, hK⟩
/-- The law of PathTo: true, whatever it is given. -/
theorem c_lawPathTo {p : PProg} {no : Int} (hw : wfP p) (hb : bdProgram p) : ACall Tryz.prog 11 [eP p, I64 no] H0 fun r _ => r = .bool true := by
  refine call11 (by simp) ?_
  simp only [Tryz.results11, Tryz.ntmps11, Tryz.f11, Option.getD_some, pl11]
  simp only [go_sem]
  refine c_szProgram (x := p) (by omega) (by omega) hb fun r hr => ?_
  by_cases h1 : r < 0
  · simp only [go_sem, h1, decide_true]
  · simp only [go_sem, h1, decide_false]
    obtain ⟨hrl, hsm⟩ := hr (by omega)
    refine c_toProgram (x := p) hsm ?_
    simp only [go_sem]
    refine c_pathToS (p := p) (no := no) hw hsm ?_
    simp only [go_sem]
    have hsl : (wayOf p no).length ≤ 1000 := wayOf_len
    have hnil : ¬ (wayOk p no) → wayOf p no = [] := fun h => wayOf_nil h
    refine o_toProgram (p := p) 2000000 (by omega) hsm (fun i h2 h3 => ⟨0, ?_⟩) fun H1 hag1 ha => ?_
    · simp only [upd]
      repeat rw [if_neg (by omega)]
      rfl
    · have hlo1 : ∀ i, i < 2000000 → H1 i = _ := fun i hi => hag1 i (.inl hi)
      simp only [go_sem, hlo1, oP, Nat.reduceLT]
      refine lendP (p := p) (d := 2000000) (e := 1000000) (v0 := 0) (H1 := H1) (ok := wayOk p no) (res := wayOf p no) rfl ha (fun i h => by simp only [upd]; repeat rw [if_neg (by omega)]) (by omega) ?_ (views_closed _ rfl) (k_pathToI (p := p) (no := no) hw hsm rfl) (fun hs ver => ?_) fun hs => ?_
      · simp only [upd_hi, Nat.reduceLT, Nat.reduceLeDiff, hlo1]
        rfl
      · simp only [go_sem, hlo1, Nat.reduceLT, hs]
        refine l_eqIntS (a := wayOf p no) (b := wayOf p no) (frI (T := 3) rfl (by simp only [go_sem])) (.cl _ rfl) (by omega) (by omega) ?_
        simp only [go_sem, hlo1, Nat.reduceLT, hs, decide_true]
        refine c_toProgram (x := p) hsm ?_
        simp only [go_sem, hlo1, Nat.reduceLT]
        refine m_eqProgram (d := 2000000) (p := p) (q := p) (H1 := H1) rfl ha (fun i h => by simp only [upd]; repeat rw [if_neg (by omega)]) hsm hsm ?_
        simp only [go_sem, hlo1, Nat.reduceLT, decide_true]
        refine m_markProgram (d := 2000000) (p := p) (H1 := H1) rfl ha (fun i h => by simp only [upd]; repeat rw [if_neg (by omega)]) (by omega) hsm (by omega) (by omega) fun k1 H4 hag4 hk1 _ => ?_
        have hlo4 : ∀ i, i < 2000000 → H4 i = _ := fun i hi => hag4 i (.inl hi)
        have hk1' : ¬ k1 < 0 := by omega
        simp only [go_sem, hlo4, hlo1, Nat.reduceLT, hk1']
        refine l_eqIntS (a := wayOf p no) (b := wayOf p no) (frI (T := 3) rfl (by simp only [go_sem, hlo4, hlo1, Nat.reduceLT])) (.cl _ rfl) (by omega) (by omega) ?_
        simp only [go_sem, hlo4, hlo1, Nat.reduceLT, hs, decide_true]
        refine o_markIntS (d := 1000000) (C := (wayOf p no).map I64) (by omega) (by simp only [go_sem, hlo4, hlo1, Nat.reduceLT]) (by simp) (cll_map fun _ => rfl) (by omega) (by omega) (by omega) ?_
        simp only [go_sem, hlo4, hlo1, Nat.reduceLT]
        refine l_heldIntS (n := (wayOf p no).length) (k := 1) (frC (T := 3) rfl (by simp only [go_sem])) (by omega) (by omega) (by omega) ?_
        have hn0 : ¬ (1 + ((wayOf p no).length : Int)) < 0 := by omega
        simp only [go_sem, hlo4, hlo1, Nat.reduceLT, hn0]
        refine c_toProgram (x := p) hsm ?_
        simp only [go_sem, hlo4, hlo1, Nat.reduceLT]
        refine c_pathToI (p := p) (no := no) hw hsm ?_
        simp only [go_sem, hlo4, hlo1, Nat.reduceLT, hs, decide_true]
        refine c_eqIntS (a := wayOf p no) (b := wayOf p no) (by omega) (by omega) ?_
        simp only [go_sem, hlo4, hlo1, Nat.reduceLT, hs, decide_true]
        refine l_heldIntS (n := (wayOf p no).length) (k := 1) (frC (T := 3) rfl (by simp only [go_sem])) (by omega) (by omega) (by omega) ?_
        simp only [go_sem, hlo4, hlo1, Nat.reduceLT, hn0]
      · have z0 : 1 + ((0 : Nat) : Int) = 1 := rfl
        have hnil := hnil hs
        simp only [go_sem, hlo1, Nat.reduceLT, hs, hnil]
        refine l_eqIntS (a := []) (b := []) (.nil 1) (.cl _ rfl) (by simp) (by simp) ?_
        simp only [go_sem, hlo1, Nat.reduceLT, hs, hnil, decide_true]
        refine c_toProgram (x := p) hsm ?_
        simp only [go_sem, hlo1, Nat.reduceLT]
        refine m_eqProgram (d := 2000000) (p := p) (q := p) (H1 := H1) rfl ha (fun i h => by simp only [upd]; repeat rw [if_neg (by omega)]) hsm hsm ?_
        simp only [go_sem, hlo1, Nat.reduceLT, decide_true]
        refine m_markProgram (d := 2000000) (p := p) (H1 := H1) rfl ha (fun i h => by simp only [upd]; repeat rw [if_neg (by omega)]) (by omega) hsm (by omega) (by omega) fun k1 H4 hag4 hk1 _ => ?_
        have hlo4 : ∀ i, i < 2000000 → H4 i = _ := fun i hi => hag4 i (.inl hi)
        have hk1' : ¬ k1 < 0 := by omega
        simp only [go_sem, hlo4, hlo1, Nat.reduceLT, hk1']
        refine l_eqIntS (a := []) (b := wayOf p no) (.nil 1) (.cl _ rfl) (by simp) (by omega) ?_
        simp only [go_sem, hlo4, hlo1, Nat.reduceLT, hs, hnil, decide_true]
        refine n_markIntS ?_
        simp only [go_sem, hlo4, hlo1, Nat.reduceLT]
        refine l_heldIntS (n := 0) (k := 1) (.nil 1) (by omega) (by omega) (by omega) ?_
        simp only [go_sem, hlo4, hlo1, Nat.reduceLT, z0]
        refine c_toProgram (x := p) hsm ?_
        simp only [go_sem, hlo4, hlo1, Nat.reduceLT]
        refine c_pathToI (p := p) (no := no) hw hsm ?_
        simp only [go_sem, hlo4, hlo1, Nat.reduceLT, hs, hnil, decide_true]
        refine c_eqIntS (a := []) (b := []) (by simp) (by simp) ?_
        simp only [go_sem, hlo4, hlo1, Nat.reduceLT, hs, hnil, decide_true]
        refine l_heldIntS (n := 0) (k := 1) (.nil 1) (by omega) (by omega) (by omega) ?_
        simp only [go_sem, hlo4, hlo1, Nat.reduceLT, z0]
end Go.Proofs.YteegphdelekdaaaGreat
