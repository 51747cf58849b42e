/- Texts of ours, joined: YteegphdelekdaaaGreatH55 YteegphdelekdaaaGreatH56. -/
import Derived.Test.YteegphdelekdaaaGreatE10
set_option linter.unusedVariables false
set_option linter.unusedSimpArgs false
namespace Go.Proofs.YteegphdelekdaaaGreat
open Go.Abs Go.IntWalk
set_option maxRecDepth 100000
attribute [local go_sem] eI eU eNs eN cN eChs eCh cCh eCos eCo cCo eP take_map eII
/-! Functions that hand back a list that they made, or nil and false. -/
def OutL (ok : Prop) (res : List Int) (b : Blk) (r : AV) (H' : Heap) : Prop :=
  (ok ∧ ∃ ver, r = .tup [.ref 1000000 ver 0 res.length, .bool true] ∧ H' 1000000 = .cells ver 3 1 (res.map I64)) ∨ (¬ ok ∧ r = .tup [.nil, .bool false] ∧ H' 1000000 = b)
theorem frozL {g : FuncId} {args args' : List AV} {ok : Prop} [Decidable ok] {res : List Int} {H : Heap} {K : AV → Heap → Prop} (hv : Views H (fun _ => false) id (fun _ => false) args args') (hk : ACall Tryz.prog g args' H0 (OutL ok res (.gone 0))) (hno : ¬ ok → res = []) (hK : K (.tup [eI res, .bool (decide ok)]) H) : ACall Tryz.prog g args H K := by
  refine ACall.pureV hv hk ?_
  rintro r H' (⟨h, ver, rfl, h1⟩ | ⟨h, rfl, _⟩)
  · rw [decide_eq_true h] at hK
    exact ⟨_, .tup2 (resI rfl rfl h1) (.cl rfl), rfl, hK⟩
  · rw [decide_eq_false h, hno h] at hK
    exact ⟨_, .tup2 (.frz _ _ (.nil 1)) (.cl rfl), rfl, hK⟩
theorem lendL {g : FuncId} {args args' : List AV} {ok : Prop} {res : List Int} {H : Heap} {K : AV → Heap → Prop} {e v0 : Nat} (hg : H e = .gone v0) (hv : Views H (inL 1) (rhoL [e]) (fun j => !([e].contains j)) args args') (hk : ACall Tryz.prog g args' (hp [.gone v0]) (OutL ok res (.gone v0)))
    (h1 : ok → ∀ ver, K (.tup [.ref e ver 0 res.length, .bool true]) (upd H e (.cells ver 3 1 (res.map I64)))) (h2 : ¬ ok → K (.tup [.nil, .bool false]) H) : ACall Tryz.prog g args H K := by
  refine ACall.handL [e] [.gone v0] (by simp) ⟨by rw [hg]; rfl, trivial⟩ (by simp [Blk.inB]) hv hk ?_
  rintro r H' (⟨hst, ver, rfl, h⟩ | ⟨hst, rfl, h⟩)
  · refine ⟨[.cells ver 3 1 (res.map I64)], ⟨h, trivial⟩, rfl, ?_, rfl, ?_⟩
    · simp only [List.all_cons, List.all_nil, Bool.and_true, Blk.inB]
      exact within_plainM (fun _ => rfl) _
    · have := h1 hst ver
      simp only [lays, Blk.ren, renL_closed _ _ (cll_map (f := I64) (l := res) fun _ => rfl)]
      exact this
  · refine ⟨[.gone v0], ⟨h, trivial⟩, rfl, by simp [Blk.inB], rfl, ?_⟩
    simp only [lays, Blk.ren]
    have := h2 hst
    have e0 : rhoL [e] 1000000 = e := rfl
    rw [show upd H e (.gone v0) = H from by rw [← hg, upd_self]]
    exact this
theorem lendP {g : FuncId} {p : PProg} {xs xs' A : List AV} {ok : Prop} {res : List Int} {H H1 : Heap} {K : AV → Heap → Prop} {d e v0 : Nat} (hA : oP d H1 p = A) (ha : atP d H1 p) (hcg : ∀ i, d ≤ i → H i = H1 i) (he : e < d) (hg : H e = .gone v0)
    (hv : Views H (inL 1) (rhoL [e]) (fun j => !([e].contains j)) xs xs') (hk : ACall Tryz.prog g (eP p :: xs') (hp [.gone v0]) (OutL ok res (.gone v0)))
    (h1 : ok → ∀ ver, K (.tup [.ref e ver 0 res.length, .bool true]) (upd H e (.cells ver 3 1 (res.map I64)))) (h2 : ¬ ok → K (.tup [.nil, .bool false]) H) : ACall Tryz.prog g (.agg A :: xs) H K := by
  have e1 : oP d H p = oP d H1 p := oP_congr fun i h _ => hcg i h
  rw [← hA, ← e1]
  have ha : atP d H p := atP_congr (fun i h _ => hcg i h) ha
  exact lendL hg (.cons _ _ _ _ (.frz _ _ (fr_p ha fun i h3 h4 => by simp; omega)) hv) hk h1 h2
theorem o_nextI {p : PProg} {w v no : Nat} (e : Nat) (he : 1000000 ≤ e) (h : Sm p w v) (hno : no < 2 ^ (w * v)) {H : Heap} {K : AV → Heap → Prop} (hg : ∃ v0, H e = .gone v0)
    (hK : ∀ ver, K (.ref e ver 0 (nextL w v p.2.2.2 no).length) (upd H e (.cells ver 3 1 ((nextL w v p.2.2.2 no).map I64)))) : ACall Tryz.prog 65 [eP p, I64 no] H K := by
  obtain ⟨v0, hg⟩ := hg
  refine ACall.own1 e hg rfl (cll_map fun _ => rfl) ?_ hK
  refine ACall.own 1000000 (by omega) (k_nextI h hno) ?_
  rintro r H' ⟨s, ver, hs, rfl, h1⟩
  exact .inl ⟨s, ver, 3, 1, _, _, hs, h1, .ref .., _, rfl, upd_same ..⟩
theorem o_reached {g : List (List Int)} {ss : List Int} (e : Nat) (he : 1000000 ≤ e) (hg : okG g) (hn1 : 1 ≤ g.length) (hn2 : g.length ≤ 1000) (hgl : ∀ l ∈ g, l.length ≤ 100000) (hs : ∀ x ∈ ss, inN g.length x) (hs2 : ss.length ≤ 1000) {H : Heap} {K : AV → Heap → Prop} (hge : ∃ v0, H e = .gone v0)
    (hK : ∀ ver, K (.ref e ver 0 (reachL g ss).length) (upd H e (.cells ver 3 1 ((reachL g ss).map I64)))) : ACall Tryz.prog 99 [eII g, eI ss] H K := by
  obtain ⟨v0, hge⟩ := hge
  refine ACall.own1 e hge rfl (cll_map fun _ => rfl) ?_ hK
  refine ACall.own 1000000 (by omega) (k_reached hg hn1 hn2 hgl hs hs2) ?_
  rintro r H' ⟨ver, rfl, h1⟩
  exact .inl ⟨8, ver, 3, 1, _, _, by omega, h1, .ref .., _, rfl, upd_same ..⟩
theorem o_reachI {p : PProg} {w v : Nat} (e : Nat) (he : 1000000 ≤ e) (h : Sm p w v) {H : Heap} {K : AV → Heap → Prop} (hge : ∃ v0, H e = .gone v0)
    (hK : ∀ ver, K (.ref e ver 0 (reachP p w v).length) (upd H e (.cells ver 3 1 ((reachP p w v).map I64)))) : ACall Tryz.prog 84 [eP p] H K := by
  have hn32 := h.n32
  obtain ⟨v0, hge⟩ := hge
  refine ACall.own1 e hge rfl (cll_map fun _ => rfl) ?_ hK
  refine call84 (by simp) ?_
  simp only [Tryz.results84, Tryz.ntmps84, Tryz.f84, Option.getD_some, pl84]
  simp only [go_sem]
  refine c_graph (p := p) h ?_
  simp only [go_sem]
  refine c_where (p := p) (w := w) (v := v) (t := p.2.2.1) h.small h.e1 h.e2 (by rw [h.start]; omega) ?_
  rw [sm_many h]
  simp only [go_sem]
  have h2 := two_pos (w * v)
  refine o_reached (g := gOf w v p.2.2.2) (ss := those w v p.2.2.1 (2 ^ (w * v))) 1000000 (by omega) (gOf_ok h.ok) (by rw [gOf_len]; omega) (by rw [gOf_len]; omega) (gOf_small h.len) (fun x hx => by rw [gOf_len]; exact those_in x hx) (Nat.le_trans those_len (by omega)) ⟨v0, by simp [upd, hp]⟩ fun ver => ?_
  simp only [go_sem]
  exact ⟨ver, rfl, rfl⟩
/-! NextOf. -/
def nextOfP (p : PProg) (no : Int) : List Int := if noOk p no then nextL p.1.toNat p.2.1.toNat p.2.2.2 no.toNat else []
theorem nextOf_eq {p : PProg} {no : Nat} {w v : Nat} (h : Sm p w v) (hn : noOk p (no : Int)) : nextOfP p no = nextL w v p.2.2.2 no := by
  unfold nextOfP
  rw [if_pos hn, (sm_eq h).1, (sm_eq h).2, Int.toNat_natCast]
theorem nextOf_nil {p : PProg} {no : Int} (hn : ¬ noOk p no) : nextOfP p no = [] := if_neg hn
theorem nextOf_len {p : PProg} {no : Int} : (nextOfP p no).length ≤ 1000 := by
  unfold nextOfP
  split
  · rename_i hn
    have := nextL_len (w := p.1.toNat) (v := p.2.1.toNat) (no := no.toNat) hn.1.1.2.1.2
    omega
  · simp
theorem k_nextOf {p : PProg} {no : Int} (hw : wfP p) (hsm : smProgram p) {H : Heap} {v0 : Nat} (hg : H 1000000 = .gone v0) : ACall Tryz.prog 31 [eP p, I64 no] H (OutL (noOk p no) (nextOfP p no) (.gone v0)) := by
  generalize hR : OutL (noOk p no) (nextOfP p no) (.gone v0) = R
  refine call31 (by simp) ?_
  simp only [Tryz.results31, Tryz.ntmps31, Tryz.f31, Option.getD_some, pl31]
  simp only [go_sem]
  refine c_noI (p := p) (no := no) hw hsm ?_
  by_cases hn : noOk p no
  · obtain ⟨w, v, h⟩ := sm_of hn.1
    have hin := (no_in h).1 hn
    obtain ⟨n, rfl⟩ : ∃ n : Nat, no = n := ⟨no.toNat, by have := hin.1; omega⟩
    simp only [go_sem, hn]
    refine o_nextI (p := p) 1000000 (by omega) h (no := n) (by have := hin.2; omega) ⟨v0, by simp only [go_sem]; exact hg⟩ fun ver => ?_
    simp only [go_sem]
    rw [← nextOf_eq h hn, ← hR]
    exact .inl ⟨hn, ver, rfl, by simp⟩
  · simp only [go_sem, hn]
    rw [← hR]
    exact .inr ⟨hn, rfl, by simp [upd]; exact hg⟩
theorem c_nextOfI {p : PProg} {no : Int} (hw : wfP p) (hsm : smProgram p) {H : Heap} {K : AV → Heap → Prop} (hK : K (.tup [eI (nextOfP p no), .bool (decide (noOk p no))]) H) : ACall Tryz.prog 31 [eP p, I64 no] H K := frozL (views_closed _ rfl) (k_nextOf hw hsm rfl) nextOf_nil hK
theorem c_nextOfS {p : PProg} {no : Int} (hw : wfP p) (hsm : smProgram p) {H : Heap} {K : AV → Heap → Prop} (hK : K (.tup [eI (nextOfP p no), .bool (decide (noOk p no))]) H) : ACall Tryz.prog 30 [eP p, I64 no] H K := by
  refine ACall.pure (R := fun r _ => (noOk p no ∧ r = .tup [eI (nextOfP p no), .bool true]) ∨ (¬ noOk p no ∧ r = .tup [.nil, .bool false])) rfl ?_ ?_
  · refine call30 (by simp) ?_
    simp only [Tryz.results30, Tryz.ntmps30, Tryz.f30, Option.getD_some, pl30]
    simp only [go_sem]
    refine c_noS (p := p) (no := no) hw hsm ?_
    by_cases hn : noOk p no
    · obtain ⟨w, v, h⟩ := sm_of hn.1
      have hin := (no_in h).1 hn
      obtain ⟨n, rfl⟩ : ∃ n : Nat, no = n := ⟨no.toNat, by have := hin.1; omega⟩
      simp only [go_sem, hn]
      refine c_nextS (p := p) h (no := n) (by have := hin.2; omega) ?_
      simp only [go_sem]
      rw [nextOf_eq h hn]
      exact .inl ⟨hn, rfl⟩
    · simp only [go_sem, hn]
      first | exact .inr ⟨hn, rfl⟩ | exact .inr hn | exact .inr trivial
  · rintro r H' (⟨h, rfl⟩ | ⟨h, rfl⟩)
    · rw [decide_eq_true h] at hK
      exact ⟨_, .cl rfl, rfl, hK⟩
    · rw [decide_eq_false h, nextOf_nil h] at hK
      exact ⟨_, .tup2 (.frz _ _ (.nil 1)) (.cl rfl), rfl, hK⟩
/-! ReachOf. -/
noncomputable def reachOfP (p : PProg) : List Int := if smallP p then reachP p p.1.toNat p.2.1.toNat else []
theorem reachOf_eq {p : PProg} {w v : Nat} (h : Sm p w v) : reachOfP p = reachP p w v := by
  unfold reachOfP
  rw [if_pos h.small, (sm_eq h).1, (sm_eq h).2]
theorem reachOf_nil {p : PProg} (hn : ¬ smallP p) : reachOfP p = [] := if_neg hn
theorem reachOf_len {p : PProg} : (reachOfP p).length ≤ 1000 := by
  by_cases hs : smallP p
  · obtain ⟨w, v, h⟩ := sm_of hs
    rw [reachOf_eq h]
    have := reachP_len h
    omega
  · rw [reachOf_nil hs]; simp
theorem k_reachOf {p : PProg} (hw : wfP p) (hsm : smProgram p) {H : Heap} {v0 : Nat} (hg : H 1000000 = .gone v0) : ACall Tryz.prog 43 [eP p] H (OutL (smallP p) (reachOfP p) (.gone v0)) := by
  generalize hR : OutL (smallP p) (reachOfP p) (.gone v0) = R
  refine call43 (by simp) ?_
  simp only [Tryz.results43, Tryz.ntmps43, Tryz.f43, Option.getD_some, pl43]
  simp only [go_sem]
  refine c_smallI (p := p) hw hsm ?_
  by_cases hn : smallP p
  · obtain ⟨w, v, h⟩ := sm_of hn
    simp only [go_sem, hn]
    refine o_reachI (p := p) 1000000 (by omega) h ⟨v0, by simp only [go_sem]; exact hg⟩ fun ver => ?_
    simp only [go_sem]
    rw [← reachOf_eq h, ← hR]
    exact .inl ⟨hn, ver, rfl, by simp⟩
  · simp only [go_sem, hn]
    rw [← hR]
    exact .inr ⟨hn, rfl, by simp [upd]; exact hg⟩
theorem c_reachOfI {p : PProg} (hw : wfP p) (hsm : smProgram p) {H : Heap} {K : AV → Heap → Prop} (hK : K (.tup [eI (reachOfP p), .bool (decide (smallP p))]) H) : ACall Tryz.prog 43 [eP p] H K := frozL (views_closed _ rfl) (k_reachOf hw hsm rfl) reachOf_nil hK
theorem c_reachOfS {p : PProg} (hw : wfP p) (hsm : smProgram p) {H : Heap} {K : AV → Heap → Prop} (hK : K (.tup [eI (reachOfP p), .bool (decide (smallP p))]) H) : ACall Tryz.prog 42 [eP p] H K := by
  refine ACall.pure (R := fun r _ => (smallP p ∧ r = .tup [eI (reachOfP p), .bool true]) ∨ (¬ smallP p ∧ r = .tup [.nil, .bool false])) rfl ?_ ?_
  · refine call42 (by simp) ?_
    simp only [Tryz.results42, Tryz.ntmps42, Tryz.f42, Option.getD_some, pl42]
    simp only [go_sem]
    refine c_smallS (p := p) hw hsm ?_
    by_cases hn : smallP p
    · obtain ⟨w, v, h⟩ := sm_of hn
      simp only [go_sem, hn]
      refine c_reachS (p := p) h ?_
      simp only [go_sem]
      rw [reachOf_eq h]
      exact .inl ⟨hn, rfl⟩
    · simp only [go_sem, hn]
      first | exact .inr ⟨hn, rfl⟩ | exact .inr hn | exact .inr trivial
  · rintro r H' (⟨h, rfl⟩ | ⟨h, rfl⟩)
    · rw [decide_eq_true h] at hK
      exact ⟨_, .cl rfl, rfl, hK⟩
    · rw [decide_eq_false h, reachOf_nil h] at hK
      exact ⟨_, .tup2 (.frz _ _ (.nil 1)) (.cl rfl), rfl, hK⟩
end Go.Proofs.YteegphdelekdaaaGreat

set_option linter.unusedVariables false
set_option linter.unusedSimpArgs false
namespace Go.Proofs.YteegphdelekdaaaGreat
open Go.Abs Go.IntWalk
set_option maxRecDepth 100000
attribute [local go_sem] eI eU eNs eN cN eChs eCh cCh eCos eCo cCo eP take_map eII
/-- The law of NextOf: true, whatever it is given. -/
theorem c_lawNextOf {p : PProg} {no : Int} (hw : wfP p) (hb : bdProgram p) : ACall Tryz.prog 4 [eP p, I64 no] H0 fun r _ => r = .bool true := by
  refine call4 (by simp) ?_
  simp only [Tryz.results4, Tryz.ntmps4, Tryz.f4, Option.getD_some, pl4]
  simp only [go_sem]
  refine c_szProgram (x := p) (by omega) (by omega) hb fun r hr => ?_
  by_cases h1 : r < 0
  · simp only [go_sem, h1, decide_true]
  · simp only [go_sem, h1, decide_false]
    obtain ⟨hrl, hsm⟩ := hr (by omega)
    refine c_toProgram (x := p) hsm ?_
    simp only [go_sem]
    refine c_nextOfS (p := p) (no := no) hw hsm ?_
    simp only [go_sem]
    have hsl : (nextOfP p no).length ≤ 1000 := nextOf_len
    have hnil : ¬ (noOk p no) → nextOfP p no = [] := fun h => nextOf_nil h
    refine o_toProgram (p := p) 2000000 (by omega) hsm (fun i h2 h3 => ⟨0, ?_⟩) fun H1 hag1 ha => ?_
    · simp only [upd]
      repeat rw [if_neg (by omega)]
      rfl
    · have hlo1 : ∀ i, i < 2000000 → H1 i = _ := fun i hi => hag1 i (.inl hi)
      simp only [go_sem, hlo1, oP, Nat.reduceLT]
      refine lendP (p := p) (d := 2000000) (e := 1000000) (v0 := 0) (H1 := H1) (ok := noOk p no) (res := nextOfP p no) rfl ha (fun i h => by simp only [upd]; repeat rw [if_neg (by omega)]) (by omega) ?_ (views_closed _ rfl) (k_nextOf (p := p) (no := no) hw hsm rfl) (fun hs ver => ?_) fun hs => ?_
      · simp only [upd_hi, Nat.reduceLT, Nat.reduceLeDiff, hlo1]
        rfl
      · simp only [go_sem, hlo1, Nat.reduceLT, hs]
        refine l_eqIntS (a := nextOfP p no) (b := nextOfP p no) (frI (T := 3) rfl (by simp only [go_sem])) (.cl _ rfl) (by omega) (by omega) ?_
        simp only [go_sem, hlo1, Nat.reduceLT, hs, decide_true]
        refine c_toProgram (x := p) hsm ?_
        simp only [go_sem, hlo1, Nat.reduceLT]
        refine m_eqProgram (d := 2000000) (p := p) (q := p) (H1 := H1) rfl ha (fun i h => by simp only [upd]; repeat rw [if_neg (by omega)]) hsm hsm ?_
        simp only [go_sem, hlo1, Nat.reduceLT, decide_true]
        refine m_markProgram (d := 2000000) (p := p) (H1 := H1) rfl ha (fun i h => by simp only [upd]; repeat rw [if_neg (by omega)]) (by omega) hsm (by omega) (by omega) fun k1 H4 hag4 hk1 _ => ?_
        have hlo4 : ∀ i, i < 2000000 → H4 i = _ := fun i hi => hag4 i (.inl hi)
        have hk1' : ¬ k1 < 0 := by omega
        simp only [go_sem, hlo4, hlo1, Nat.reduceLT, hk1']
        refine l_eqIntS (a := nextOfP p no) (b := nextOfP p no) (frI (T := 3) rfl (by simp only [go_sem, hlo4, hlo1, Nat.reduceLT])) (.cl _ rfl) (by omega) (by omega) ?_
        simp only [go_sem, hlo4, hlo1, Nat.reduceLT, hs, decide_true]
        refine o_markIntS (d := 1000000) (C := (nextOfP p no).map I64) (by omega) (by simp only [go_sem, hlo4, hlo1, Nat.reduceLT]) (by simp) (cll_map fun _ => rfl) (by omega) (by omega) (by omega) ?_
        simp only [go_sem, hlo4, hlo1, Nat.reduceLT]
        refine l_heldIntS (n := (nextOfP p no).length) (k := 1) (frC (T := 3) rfl (by simp only [go_sem])) (by omega) (by omega) (by omega) ?_
        have hn0 : ¬ (1 + ((nextOfP p no).length : Int)) < 0 := by omega
        simp only [go_sem, hlo4, hlo1, Nat.reduceLT, hn0]
        refine c_toProgram (x := p) hsm ?_
        simp only [go_sem, hlo4, hlo1, Nat.reduceLT]
        refine c_nextOfI (p := p) (no := no) hw hsm ?_
        simp only [go_sem, hlo4, hlo1, Nat.reduceLT, hs, decide_true]
        refine c_eqIntS (a := nextOfP p no) (b := nextOfP p no) (by omega) (by omega) ?_
        simp only [go_sem, hlo4, hlo1, Nat.reduceLT, hs, decide_true]
        refine l_heldIntS (n := (nextOfP p no).length) (k := 1) (frC (T := 3) rfl (by simp only [go_sem])) (by omega) (by omega) (by omega) ?_
        simp only [go_sem, hlo4, hlo1, Nat.reduceLT, hn0]
      · have z0 : 1 + ((0 : Nat) : Int) = 1 := rfl
        have hnil := hnil hs
        simp only [go_sem, hlo1, Nat.reduceLT, hs, hnil]
        refine l_eqIntS (a := []) (b := []) (.nil 1) (.cl _ rfl) (by simp) (by simp) ?_
        simp only [go_sem, hlo1, Nat.reduceLT, hs, hnil, decide_true]
        refine c_toProgram (x := p) hsm ?_
        simp only [go_sem, hlo1, Nat.reduceLT]
        refine m_eqProgram (d := 2000000) (p := p) (q := p) (H1 := H1) rfl ha (fun i h => by simp only [upd]; repeat rw [if_neg (by omega)]) hsm hsm ?_
        simp only [go_sem, hlo1, Nat.reduceLT, decide_true]
        refine m_markProgram (d := 2000000) (p := p) (H1 := H1) rfl ha (fun i h => by simp only [upd]; repeat rw [if_neg (by omega)]) (by omega) hsm (by omega) (by omega) fun k1 H4 hag4 hk1 _ => ?_
        have hlo4 : ∀ i, i < 2000000 → H4 i = _ := fun i hi => hag4 i (.inl hi)
        have hk1' : ¬ k1 < 0 := by omega
        simp only [go_sem, hlo4, hlo1, Nat.reduceLT, hk1']
        refine l_eqIntS (a := []) (b := nextOfP p no) (.nil 1) (.cl _ rfl) (by simp) (by omega) ?_
        simp only [go_sem, hlo4, hlo1, Nat.reduceLT, hs, hnil, decide_true]
        refine n_markIntS ?_
        simp only [go_sem, hlo4, hlo1, Nat.reduceLT]
        refine l_heldIntS (n := 0) (k := 1) (.nil 1) (by omega) (by omega) (by omega) ?_
        simp only [go_sem, hlo4, hlo1, Nat.reduceLT, z0]
        refine c_toProgram (x := p) hsm ?_
        simp only [go_sem, hlo4, hlo1, Nat.reduceLT]
        refine c_nextOfI (p := p) (no := no) hw hsm ?_
        simp only [go_sem, hlo4, hlo1, Nat.reduceLT, hs, hnil, decide_true]
        refine c_eqIntS (a := []) (b := []) (by simp) (by simp) ?_
        simp only [go_sem, hlo4, hlo1, Nat.reduceLT, hs, hnil, decide_true]
        refine l_heldIntS (n := 0) (k := 1) (.nil 1) (by omega) (by omega) (by omega) ?_
        simp only [go_sem, hlo4, hlo1, Nat.reduceLT, z0]
/-- The law of ReachOf: true, whatever it is given. -/
theorem c_lawReachOf {p : PProg} (hw : wfP p) (hb : bdProgram p) : ACall Tryz.prog 8 [eP p] H0 fun r _ => r = .bool true := by
  refine call8 (by simp) ?_
  simp only [Tryz.results8, Tryz.ntmps8, Tryz.f8, Option.getD_some, pl8]
  simp only [go_sem]
  refine c_szProgram (x := p) (by omega) (by omega) hb fun r hr => ?_
  by_cases h1 : r < 0
  · simp only [go_sem, h1, decide_true]
  · simp only [go_sem, h1, decide_false]
    obtain ⟨hrl, hsm⟩ := hr (by omega)
    refine c_toProgram (x := p) hsm ?_
    simp only [go_sem]
    refine c_reachOfS (p := p) hw hsm ?_
    simp only [go_sem]
    have hsl : (reachOfP p).length ≤ 1000 := reachOf_len
    have hnil : ¬ (smallP p) → reachOfP p = [] := fun h => reachOf_nil h
    refine o_toProgram (p := p) 2000000 (by omega) hsm (fun i h2 h3 => ⟨0, ?_⟩) fun H1 hag1 ha => ?_
    · simp only [upd]
      repeat rw [if_neg (by omega)]
      rfl
    · have hlo1 : ∀ i, i < 2000000 → H1 i = _ := fun i hi => hag1 i (.inl hi)
      simp only [go_sem, hlo1, oP, Nat.reduceLT]
      refine lendP (p := p) (d := 2000000) (e := 1000000) (v0 := 0) (H1 := H1) (ok := smallP p) (res := reachOfP p) rfl ha (fun i h => by simp only [upd]; repeat rw [if_neg (by omega)]) (by omega) ?_ (views_closed _ rfl) (k_reachOf (p := p) hw hsm rfl) (fun hs ver => ?_) fun hs => ?_
      · simp only [upd_hi, Nat.reduceLT, Nat.reduceLeDiff, hlo1]
        rfl
      · simp only [go_sem, hlo1, Nat.reduceLT, hs]
        refine l_eqIntS (a := reachOfP p) (b := reachOfP p) (frI (T := 3) rfl (by simp only [go_sem])) (.cl _ rfl) (by omega) (by omega) ?_
        simp only [go_sem, hlo1, Nat.reduceLT, hs, decide_true]
        refine c_toProgram (x := p) hsm ?_
        simp only [go_sem, hlo1, Nat.reduceLT]
        refine m_eqProgram (d := 2000000) (p := p) (q := p) (H1 := H1) rfl ha (fun i h => by simp only [upd]; repeat rw [if_neg (by omega)]) hsm hsm ?_
        simp only [go_sem, hlo1, Nat.reduceLT, decide_true]
        refine m_markProgram (d := 2000000) (p := p) (H1 := H1) rfl ha (fun i h => by simp only [upd]; repeat rw [if_neg (by omega)]) (by omega) hsm (by omega) (by omega) fun k1 H4 hag4 hk1 _ => ?_
        have hlo4 : ∀ i, i < 2000000 → H4 i = _ := fun i hi => hag4 i (.inl hi)
        have hk1' : ¬ k1 < 0 := by omega
        simp only [go_sem, hlo4, hlo1, Nat.reduceLT, hk1']
        refine l_eqIntS (a := reachOfP p) (b := reachOfP p) (frI (T := 3) rfl (by simp only [go_sem, hlo4, hlo1, Nat.reduceLT])) (.cl _ rfl) (by omega) (by omega) ?_
        simp only [go_sem, hlo4, hlo1, Nat.reduceLT, hs, decide_true]
        refine o_markIntS (d := 1000000) (C := (reachOfP p).map I64) (by omega) (by simp only [go_sem, hlo4, hlo1, Nat.reduceLT]) (by simp) (cll_map fun _ => rfl) (by omega) (by omega) (by omega) ?_
        simp only [go_sem, hlo4, hlo1, Nat.reduceLT]
        refine l_heldIntS (n := (reachOfP p).length) (k := 1) (frC (T := 3) rfl (by simp only [go_sem])) (by omega) (by omega) (by omega) ?_
        have hn0 : ¬ (1 + ((reachOfP p).length : Int)) < 0 := by omega
        simp only [go_sem, hlo4, hlo1, Nat.reduceLT, hn0]
        refine c_toProgram (x := p) hsm ?_
        simp only [go_sem, hlo4, hlo1, Nat.reduceLT]
        refine c_reachOfI (p := p) hw hsm ?_
        simp only [go_sem, hlo4, hlo1, Nat.reduceLT, hs, decide_true]
        refine c_eqIntS (a := reachOfP p) (b := reachOfP p) (by omega) (by omega) ?_
        simp only [go_sem, hlo4, hlo1, Nat.reduceLT, hs, decide_true]
        refine l_heldIntS (n := (reachOfP p).length) (k := 1) (frC (T := 3) rfl (by simp only [go_sem])) (by omega) (by omega) (by omega) ?_
        simp only [go_sem, hlo4, hlo1, Nat.reduceLT, hn0]
      · have z0 : 1 + ((0 : Nat) : Int) = 1 := rfl
        have hnil := hnil hs
        simp only [go_sem, hlo1, Nat.reduceLT, hs, hnil]
        refine l_eqIntS (a := []) (b := []) (.nil 1) (.cl _ rfl) (by simp) (by simp) ?_
        simp only [go_sem, hlo1, Nat.reduceLT, hs, hnil, decide_true]
        refine c_toProgram (x := p) hsm ?_
        simp only [go_sem, hlo1, Nat.reduceLT]
        refine m_eqProgram (d := 2000000) (p := p) (q := p) (H1 := H1) rfl ha (fun i h => by simp only [upd]; repeat rw [if_neg (by omega)]) hsm hsm ?_
        simp only [go_sem, hlo1, Nat.reduceLT, decide_true]
        refine m_markProgram (d := 2000000) (p := p) (H1 := H1) rfl ha (fun i h => by simp only [upd]; repeat rw [if_neg (by omega)]) (by omega) hsm (by omega) (by omega) fun k1 H4 hag4 hk1 _ => ?_
        have hlo4 : ∀ i, i < 2000000 → H4 i = _ := fun i hi => hag4 i (.inl hi)
        have hk1' : ¬ k1 < 0 := by omega
        simp only [go_sem, hlo4, hlo1, Nat.reduceLT, hk1']
        refine l_eqIntS (a := []) (b := reachOfP p) (.nil 1) (.cl _ rfl) (by simp) (by omega) ?_
        simp only [go_sem, hlo4, hlo1, Nat.reduceLT, hs, hnil, decide_true]
        refine n_markIntS ?_
        simp only [go_sem, hlo4, hlo1, Nat.reduceLT]
        refine l_heldIntS (n := 0) (k := 1) (.nil 1) (by omega) (by omega) (by omega) ?_
        simp only [go_sem, hlo4, hlo1, Nat.reduceLT, z0]
        refine c_toProgram (x := p) hsm ?_
        simp only [go_sem, hlo4, hlo1, Nat.reduceLT]
        refine c_reachOfI (p := p) hw hsm ?_
        simp only [go_sem, hlo4, hlo1, Nat.reduceLT, hs, hnil, decide_true]
        refine c_eqIntS (a := []) (b := []) (by simp) (by simp) ?_
        simp only [go_sem, hlo4, hlo1, Nat.reduceLT, hs, hnil, decide_true]
        refine l_heldIntS (n := 0) (k := 1) (.nil 1) (by omega) (by omega) (by omega) ?_
        simp only [go_sem, hlo4, hlo1, Nat.reduceLT, z0]
end Go.Proofs.YteegphdelekdaaaGreat
