/- Texts of ours, joined: YteegphdelekdaaaGreatH25 YteegphdelekdaaaGreatH26 YteegphdelekdaaaGreatH27 YteegphdelekdaaaGreatH28. -/
import Derived.Test.YteegphdelekdaaaGreatE4
set_option linter.unusedVariables false
set_option linter.unusedSimpArgs false
namespace Go.Proofs.YteegphdelekdaaaGreat
open Go.Abs Go.IntWalk
set_option maxRecDepth 100000
attribute [local go_sem] eI eU eNs eN cN eChs eCh cCh eCos eCo cCo eP take_map
/-! Lists of ints: compared, overwritten, held; the states in which a condition holds. -/
theorem c_eqIntS {a b : List Int} {H : Heap} {K : AV → Heap → Prop} (ha : a.length ≤ 1000000000) (hb : b.length ≤ 1000000000) (hK : K (.bool (decide (a = b))) H) : ACall Tryz.prog 22 [eI a, eI b] H K := by
  refine ACall.pure (R := fun r _ => r = .bool (decide (a = b))) rfl ?_ fun r H' h => by subst h; exact ⟨_, .cl rfl, rfl, hK⟩
  refine call22 (by simp) ?_
  simp only [Tryz.results22, Tryz.ntmps22, Tryz.f22, Option.getD_some, pl22]
  by_cases hlen : (a.length : Int) = b.length
  · simp only [go_sem, hlen]
    refine ALoop.intro (pl := pl22) (fun k env H => ∃ i : Nat, env 0 = eI a ∧ env 1 = eI b ∧ env 5 = I64 i ∧ i + k = a.length ∧ a.take i = b.take i) a.length (by kernel_rfl) ?_ ?_
    · simp only [go_sem]
      exact ⟨0, rfl, by omega, rfl⟩
    · rintro k env H ⟨i, e0, e1, e5, hk, ht⟩
      by_cases hz : (i : Int) < a.length
      · obtain ⟨x, hx⟩ := get_some (l := a) (i := i) (by omega)
        obtain ⟨y, hy⟩ := get_some (l := b) (i := i) (by omega)
        have hw : IntKind.wrap .i64 ((i : Int) + 1) = i + 1 := i64_in _ (by omega)
        have h0 : (0 : Int) ≤ i := by omega
        by_cases hxy : x = y
        · simp only [go_sem, pl22, e0, e1, e5, hz, hx, hy, h0, hxy, hw]
          exact ⟨k - 1, by omega, i + 1, rfl, by omega, take_step ht hx hy hxy⟩
        · simp only [go_sem, pl22, e0, e1, e5, hz, hx, hy, h0, hxy]
          exact bF fun e => by rw [e, hy] at hx; injection hx with hx; exact hxy hx.symm
      · simp only [go_sem, e0, e1, e5, hz]
        exact bT (by rw [← List.take_of_length_le (l := a) (i := i) (by omega), ht, List.take_of_length_le (by omega)])
  · simp only [go_sem, hlen]
    exact bF fun e => hlen (by rw [e])
/-- The numbers from k on. -/
def cnt (k : Int) (n : Nat) : List Int := (List.range n).map fun i => k + (i : Nat)
theorem cnt_len {k : Int} {n : Nat} : (cnt k n).length = n := by simp [cnt]
theorem cnt_get {k : Int} {n i : Nat} (h : i < n) : (cnt k n)[i]? = some (k + (i : Nat)) := by simp [cnt, List.getElem?_range h]
theorem cnt_take {k : Int} {n i : Nat} (h : i < n) : (cnt k n).take (i + 1) = (cnt k n).take i ++ [k + (i : Nat)] := take_one (cnt_get h)
theorem o_markIntS {d v n : Nat} {C : List AV} {k : Int} {H : Heap} {K : AV → Heap → Prop} (hd : 1000000 ≤ d) (hH : H d = .cells v 3 1 C) (hC : C.length = n) (hcl : closedL C = true) (hn : n ≤ 1000000000) (hk0 : 0 ≤ k) (hk : k ≤ 1000000)
    (hK : K (I64 (k + n)) (upd H d (.cells v 3 1 ((cnt k n).map I64)))) : ACall Tryz.prog 25 [.ref d v 0 n, I64 k] H K := by
  have hin : inI d 1 d = true := inI_iff.2 (by omega)
  refine ACall.iv (d := d) (n := 1) hd ?_ ?_ (R := fun r H' => r = I64 (k + n) ∧ H' d = .cells v 3 1 ((cnt k n).map I64)) ?_ ?_
  · intro i v T sz cs hi hc
    have := inI_iff.1 hi
    rw [show i = d by omega, hH] at hc
    cases hc; exact withinL_cl hcl
  · simp only [withinL, within, hin, Bool.and_self]
  · generalize hHs : sub d 1 H = Hs
    have hs : Hs d = .cells v 3 1 C := by rw [← hHs, sub_in (by omega) (by omega), hH]
    clear hHs
    refine call25 (by simp) ?_
    simp only [Tryz.results25, Tryz.ntmps25, Tryz.f25, Option.getD_some, pl25]
    simp only [go_sem]
    refine ALoop.intro (pl := pl25) (fun q env H => ∃ (i : Nat) (C : List AV), env 0 = .ref d v 0 n ∧ env 1 = I64 (k + (i : Nat)) ∧ env 5 = I64 i ∧ H d = .cells v 3 1 C ∧ i + q = n ∧ C.length = n ∧ C.take i = ((cnt k n).take i).map I64) n (by kernel_rfl) ?_ ?_
    · simp only [go_sem]
      exact ⟨0, C, by simp, rfl, hs, by omega, hC, rfl⟩
    · rintro q env H ⟨i, C, e0, e1, e5, bd, hq, hC, hT⟩
      by_cases hz : (i : Int) < n
      · have h0 : (0 : Int) ≤ i := by omega
        have hw : IntKind.wrap .i64 ((i : Int) + 1) = i + 1 := i64_in _ (by omega)
        have hw1 : IntKind.wrap .i64 (k + (i : Int) + 1) = k + ((i + 1 : Nat) : Int) := by rw [i64_in _ (by omega)]; omega
        simp only [go_sem, pl25, e0, e1, e5, bd, hz, h0, hw, hw1]
        refine ⟨by omega, q - 1, by omega, i + 1, _, rfl, rfl, rfl, by omega, by rw [List.length_set]; exact hC, ?_⟩
        rw [set_take (by omega), hT, cnt_take (by omega), List.map_append]; rfl
      · simp only [go_sem, e0, e1, e5, bd, hz]
        rw [List.take_of_length_le (by omega), List.take_of_length_le (by rw [cnt_len]; omega)] at hT
        have : i = n := by omega
        subst this
        exact ⟨rfl, by rw [hT]⟩
  · rintro r H' ⟨rfl, h⟩
    refine ⟨_, .keep _ rfl, fun i v T sz cs hi hc => ?_, ?_⟩
    · have := inI_iff.1 hi
      rw [show i = d by omega, h] at hc
      cases hc; exact withinL_cl (cll_map fun _ => rfl)
    · rw [joi_one h]; exact hK
/-- Nothing has been overwritten since. -/
theorem c_heldIntS {n : Nat} {k : Int} {H : Heap} {K : AV → Heap → Prop} (hn : n ≤ 1000000000) (hk0 : 0 ≤ k) (hk : k ≤ 1000000) (hK : K (I64 (k + n)) H) : ACall Tryz.prog 32 [eI (cnt k n), I64 k] H K := by
  refine ACall.pure (R := fun r _ => r = I64 (k + n)) rfl ?_ fun r H' h => by subst h; exact ⟨_, .cl rfl, rfl, hK⟩
  refine call32 (by simp) ?_
  simp only [Tryz.results32, Tryz.ntmps32, Tryz.f32, Option.getD_some, pl32]
  have hl : (cnt k n).length = n := cnt_len
  simp only [go_sem]
  refine ALoop.intro (pl := pl32) (fun q env H => ∃ i : Nat, env 0 = eI (cnt k n) ∧ env 1 = I64 (k + (i : Nat)) ∧ env 5 = I64 i ∧ i + q = n) n (by kernel_rfl) ?_ ?_
  · simp only [go_sem]
    exact ⟨0, by simp, rfl, by omega⟩
  · rintro q env H ⟨i, e0, e1, e5, hq⟩
    by_cases hz : (i : Int) < n
    · have h0 : (0 : Int) ≤ i := by omega
      have hx := cnt_get (k := k) (show i < n by omega)
      have hw : IntKind.wrap .i64 ((i : Int) + 1) = i + 1 := i64_in _ (by omega)
      have hw1 : IntKind.wrap .i64 (k + (i : Int) + 1) = k + ((i + 1 : Nat) : Int) := by rw [i64_in _ (by omega)]; omega
      simp only [go_sem, pl32, e0, e1, e5, hz, hl, hx, h0, hw, hw1]
      exact ⟨q - 1, by omega, i + 1, rfl, rfl, by omega⟩
    · simp only [go_sem, e0, e1, e5, hl, hz]
      have : i = n := by omega
      rw [this]
end Go.Proofs.YteegphdelekdaaaGreat

set_option linter.unusedVariables false
set_option linter.unusedSimpArgs false
namespace Go.Proofs.YteegphdelekdaaaGreat
open Go.Abs Go.IntWalk
set_option maxRecDepth 100000
attribute [local go_sem] eI eU eNs eN cN eChs eCh cCh eCos eCo cCo eP take_map
/-- The states below a number in which a condition holds. -/
def those (w v : Nat) (t : List PNode) (n : Nat) : List Int := ((List.range n).filter fun no => decide (evalT w t (stOf w v no) = 1)).map fun (no : Nat) => (no : Int)
theorem those_succ {w v n : Nat} {t : List PNode} : those w v t (n + 1) = if evalT w t (stOf w v n) = 1 then those w v t n ++ [(n : Int)] else those w v t n := by
  unfold those
  rw [List.range_succ, List.filter_append, List.map_append]
  by_cases h : evalT w t (stOf w v n) = 1
  · rw [if_pos h, List.filter_cons_of_pos (by simp [h])]; rfl
  · rw [if_neg h, List.filter_cons_of_neg (by simp [h])]; simp
theorem those_len {w v n : Nat} {t : List PNode} : (those w v t n).length ≤ n := by
  unfold those
  rw [List.length_map]
  exact Nat.le_trans (List.length_filter_le _ _) (by simp)
def manyN (p : PProg) : Nat := (manyP p).toNat
/-- The spec's list. -/
theorem k_those {p : PProg} {t : List PNode} {w v : Nat} (hs : smallP p) (e1 : p.1 = w) (e2 : p.2.1 = v) (hk : kindT (w : Int) (v : Int) t ≠ 0) {H : Heap} : ACall Tryz.prog 71 [eP p, eNs t] H fun r H' => ∃ ver, r = .ref 900 ver 0 (those w v t (manyN p)).length ∧ H' 900 = .cells ver 3 1 ((those w v t (manyN p)).map I64) := by
  obtain ⟨w', v', e1', e2', g1, g2, g3, g4, g5⟩ := small_nat hs
  have hw' : w' = w := by omega
  have hv' : v' = v := by omega
  subst hw' hv'
  have hml := manyP_le hs
  refine call71 (by simp) ?_
  simp only [Tryz.results71, Tryz.ntmps71, Tryz.f71, Option.getD_some, pl71]
  simp only [go_sem]
  refine ALoop.thaw 900 3 1 (t := 5) (by simp only [go_sem]) ?_
  refine ALoop.intro (pl := pl71) (fun k env H => ∃ (i v2 sv : Nat), env 1 = eNs t ∧ env 2 = .ptr 2 v2 0 ∧ env 5 = .ref 900 sv 0 (those w' v' t i).length ∧ env 6 = I64 i ∧ H 2 = .cells v2 36 1 [I64 p.1, I64 p.2.1, eNs p.2.2.1, eCos p.2.2.2] ∧ H 900 = .cells sv 3 1 ((those w' v' t i).map I64) ∧ i + k = manyN p) (manyN p) (by kernel_rfl) ?_ ?_
  · simp only [go_sem]
    exact ⟨0, _, _, rfl, rfl, rfl, rfl, rfl, by omega⟩
  · rintro k env H ⟨i, v2, sv, e1, e2, e5, e6, b2, b9, hk'⟩
    unfold manyN at hk'
    have hwi : IntKind.wrap .i64 ((i : Int) + 1) = i + 1 := i64_in _ (by omega)
    have hle := those_len (w := w') (v := v') (n := i) (t := t)
    simp only [go_sem, pl71, e1, e2, e5, e6, b2, b9]
    refine c_manyS (p := p) hs ?_
    by_cases hz : (i : Int) < manyP p
    · simp only [go_sem, pl71, e1, e2, e5, e6, b2, b9, hz]
      refine c_stS (p := p) (w := w') (v := v') (no := i) e1' e2' g1 (by omega) g3 g5 (by omega) ?_
      simp only [go_sem, pl71, e1, e2, e5, e6, b2, b9, hz]
      refine c_holdsS (p := p) (w := w') (vars := v') (t := t) (s := stOf w' v' i) e1' hk (stOf_len _ _ _) stOf_lt ?_
      have hsucc := those_succ (w := w') (v := v') (n := i) (t := t)
      by_cases hh : evalT w' t (stOf w' v' i) = 1
      · rw [if_pos hh] at hsucc
        simp only [go_sem, pl71, e1, e2, e5, e6, b2, b9, hh, hwi]
        refine ⟨by omega, k - 1, by omega, i + 1, v2, sv + 1, rfl, ?_, rfl, rfl, ?_, by unfold manyN; omega⟩
        · rw [hsucc, List.length_append]; rfl
        · rw [hsucc, List.map_append]; rfl
      · rw [if_neg hh] at hsucc
        simp only [go_sem, pl71, e1, e2, e5, e6, b2, b9, hh, hwi]
        exact ⟨k - 1, by omega, i + 1, v2, sv, rfl, by rw [hsucc], rfl, rfl, by rw [hsucc], by unfold manyN; omega⟩
    · simp only [go_sem, pl71, e1, e2, e5, e6, b2, b9, hz]
      have : i = manyN p := by unfold manyN; omega
      subst this
      exact ⟨sv, rfl, rfl⟩
/-- The implementation's list. -/
theorem k_where {p : PProg} {t : List PNode} {w v : Nat} (hs : smallP p) (e1 : p.1 = w) (e2 : p.2.1 = v) (hk : kindT (w : Int) (v : Int) t ≠ 0) {H : Heap} : ACall Tryz.prog 91 [eP p, eNs t] H fun r H' => ∃ ver, r = .ref 7 ver 0 (those w v t (manyN p)).length ∧ H' 7 = .cells ver 3 1 ((those w v t (manyN p)).map I64) := by
  obtain ⟨w', v', e1', e2', g1, g2, g3, g4, g5⟩ := small_nat hs
  have hw' : w' = w := by omega
  have hv' : v' = v := by omega
  subst hw' hv'
  have hml := manyP_le hs
  refine call91 (by simp) ?_
  simp only [Tryz.results91, Tryz.ntmps91, Tryz.f91, Option.getD_some, pl91]
  simp only [go_sem]
  refine c_manyI (p := p) hs ?_
  simp only [go_sem]
  refine ALoop.intro (pl := pl91) (fun k env H => ∃ (i v2 sv : Nat), env 1 = eNs t ∧ env 2 = .ptr 2 v2 0 ∧ env 5 = .ref 7 sv 0 (those w' v' t i).length ∧ env 9 = I64 (manyP p) ∧ env 10 = I64 i ∧ H 2 = .cells v2 36 1 [I64 p.1, I64 p.2.1, eNs p.2.2.1, eCos p.2.2.2] ∧ H 7 = .cells sv 3 1 ((those w' v' t i).map I64) ∧ i + k = manyN p) (manyN p) (by kernel_rfl) ?_ ?_
  · simp only [go_sem]
    exact ⟨0, _, _, rfl, rfl, rfl, rfl, rfl, by omega⟩
  · rintro k env H ⟨i, v2, sv, e1, e2, e5, e9, e10, b2, b9, hk'⟩
    unfold manyN at hk'
    have hwi : IntKind.wrap .i64 ((i : Int) + 1) = i + 1 := i64_in _ (by omega)
    have hle := those_len (w := w') (v := v') (n := i) (t := t)
    by_cases hz : (i : Int) < manyP p
    · simp only [go_sem, pl91, e1, e2, e5, e9, e10, b2, b9, hz]
      refine c_stI (p := p) (w := w') (v := v') (no := i) e1' e2' g1 (by omega) g3 g5 (by omega) ?_
      simp only [go_sem, pl91, e1, e2, e5, e9, e10, b2, b9, hz]
      refine c_holdsI (p := p) (w := w') (vars := v') (t := t) (s := stOf w' v' i) e1' hk (stOf_len _ _ _) stOf_lt ?_
      have hsucc := those_succ (w := w') (v := v') (n := i) (t := t)
      by_cases hh : evalT w' t (stOf w' v' i) = 1
      · rw [if_pos hh] at hsucc
        simp only [go_sem, pl91, e1, e2, e5, e9, e10, b2, b9, hh, hwi]
        refine ⟨by omega, k - 1, by omega, i + 1, v2, sv + 1, rfl, ?_, rfl, rfl, ?_, by unfold manyN; omega⟩
        · rw [hsucc, List.length_append]; rfl
        · rw [hsucc, List.map_append]; rfl
      · rw [if_neg hh] at hsucc
        simp only [go_sem, pl91, e1, e2, e5, e9, e10, b2, b9, hh, hwi]
        exact ⟨k - 1, by omega, i + 1, v2, sv, rfl, by rw [hsucc], rfl, rfl, by rw [hsucc], by unfold manyN; omega⟩
    · simp only [go_sem, pl91, e1, e2, e5, e9, e10, b2, b9, hz]
      have : i = manyN p := by unfold manyN; omega
      subst this
      exact ⟨sv, rfl, rfl⟩
theorem resI {L : Nat → Bool} {H : Heap} {id ver T n : Nat} {l : List Int} (hn : n = l.length) (hL : L id = false) (h : H id = .cells ver T 1 (l.map I64)) : Res L anyAV H (.ref id ver 0 n) (eI l) := Res.map1 (f := I64) (fun _ => rfl) (fun _ => rfl) hn hL h
theorem c_those {p : PProg} {t : List PNode} {w v : Nat} (hs : smallP p) (e1 : p.1 = w) (e2 : p.2.1 = v) (hk : kindT (w : Int) (v : Int) t ≠ 0) {H : Heap} {K : AV → Heap → Prop} (hK : K (eI (those w v t (manyN p))) H) : ACall Tryz.prog 71 [eP p, eNs t] H K := by
  refine ACall.pure rfl (k_those hs e1 e2 hk) ?_
  rintro r H' ⟨ver, rfl, h⟩
  exact ⟨_, resI rfl rfl h, rfl, hK⟩
theorem c_where {p : PProg} {t : List PNode} {w v : Nat} (hs : smallP p) (e1 : p.1 = w) (e2 : p.2.1 = v) (hk : kindT (w : Int) (v : Int) t ≠ 0) {H : Heap} {K : AV → Heap → Prop} (hK : K (eI (those w v t (manyN p))) H) : ACall Tryz.prog 91 [eP p, eNs t] H K := by
  refine ACall.pure rfl (k_where hs e1 e2 hk) ?_
  rintro r H' ⟨ver, rfl, h⟩
  exact ⟨_, resI rfl rfl h, rfl, hK⟩
theorem o_where {p : PProg} {t : List PNode} {w v : Nat} (e : Nat) (he : 1000000 ≤ e) (hs : smallP p) (e1 : p.1 = w) (e2 : p.2.1 = v) (hk : kindT (w : Int) (v : Int) t ≠ 0) {H : Heap} {K : AV → Heap → Prop} (hg : ∃ v0, H e = .gone v0)
    (hK : ∀ ver, K (.ref e ver 0 (those w v t (manyN p)).length) (upd H e (.cells ver 3 1 ((those w v t (manyN p)).map I64)))) : ACall Tryz.prog 91 [eP p, eNs t] H K := by
  obtain ⟨v0, hg⟩ := hg
  refine ACall.own1 e hg rfl (cll_map fun _ => rfl) ?_ hK
  refine ACall.named 1000000 (by omega) (s := 7) (by omega) (T := 3) (sz := 1) (len := (those w v t (manyN p)).length) (Q := fun cs H' => cs = (those w v t (manyN p)).map I64) ((k_where hs e1 e2 hk).mono fun r H' h => ?_) ?_
  · obtain ⟨ver, h1, h2⟩ := h
    exact ⟨ver, _, h1, h2, rfl⟩
  · rintro v ver cs H' rfl
    exact ⟨ver, rfl, upd_same ..⟩
def startsOf (p : PProg) : List Int := if smallP p then those p.1.toNat p.2.1.toNat p.2.2.1 (manyN p) else []
theorem starts_small {p : PProg} (hs : smallP p) : ∃ w v : Nat, p.1 = w ∧ p.2.1 = v ∧ kindT (w : Int) (v : Int) p.2.2.1 ≠ 0 ∧ startsOf p = those w v p.2.2.1 (manyN p) := by
  obtain ⟨w, v, e1, e2, _⟩ := small_nat hs
  refine ⟨w, v, e1, e2, by rw [← e1, ← e2, hs.1.1]; omega, ?_⟩
  unfold startsOf
  rw [if_pos hs, e1, e2, Int.toNat_natCast, Int.toNat_natCast]
theorem starts_len {p : PProg} : (startsOf p).length ≤ 1000 := by
  unfold startsOf
  split
  · rename_i h
    have h1 := manyP_le h
    exact Nat.le_trans those_len (by unfold manyN; omega)
  · simp
end Go.Proofs.YteegphdelekdaaaGreat

set_option linter.unusedVariables false
set_option linter.unusedSimpArgs false
namespace Go.Proofs.YteegphdelekdaaaGreat
open Go.Abs Go.IntWalk
set_option maxRecDepth 100000
attribute [local go_sem] eI eU eNs eN cN eChs eCh cCh eCos eCo cCo eP take_map
/-- Comparison of lists that are ours. -/
theorem l_eqIntS {a b : List Int} {x y : AV} {H : Heap} {K : AV → Heap → Prop} (hx : FRes H (fun _ => true) anyAV x (eI a)) (hy : FRes H (fun _ => true) anyAV y (eI b)) (ha : a.length ≤ 1000000000) (hb : b.length ≤ 1000000000) (hK : K (.bool (decide (a = b))) H) : ACall Tryz.prog 22 [x, y] H K :=
  ACall.peek (R := fun r _ => r = .bool (decide (a = b))) (c_eqIntS ha hb rfl) (.cons _ _ _ _ (.frz _ _ hx) (.cons _ _ _ _ (.frz _ _ hy) .nil)) fun r H' h => by subst h; exact ⟨rfl, hK⟩
theorem l_heldIntS {n : Nat} {k : Int} {x : AV} {H : Heap} {K : AV → Heap → Prop} (hx : FRes H (fun _ => true) anyAV x (eI (cnt k n))) (hn : n ≤ 1000000000) (hk0 : 0 ≤ k) (hk : k ≤ 1000000) (hK : K (I64 (k + n)) H) : ACall Tryz.prog 32 [x, I64 k] H K :=
  ACall.peek (R := fun r _ => r = I64 (k + n)) (c_heldIntS hn hk0 hk rfl) (.cons _ _ _ _ (.frz _ _ hx) (.cons _ _ _ _ (.cl rfl) .nil)) fun r H' h => by subst h; exact ⟨rfl, hK⟩
theorem l_eqProgram {d : Nat} {p q : PProg} {H : Heap} {K : AV → Heap → Prop} (ha : atP d H p) (hp : smProgram p) (hq : smProgram q) (hK : K (.bool (decide (p = q))) H) : ACall Tryz.prog 20 [.agg (oP d H p), eP q] H K :=
  ACall.peek (R := fun r _ => r = .bool (decide (p = q))) (c_eqProgram hp hq rfl) (.cons _ _ _ _ (.frz _ _ (fr_p ha fun _ _ _ => rfl)) (.cons _ _ _ _ (.cl rfl) .nil)) fun r H' h => by subst h; exact ⟨rfl, hK⟩
theorem frI {l : List Int} {H : Heap} {id ver T : Nat} {β : Nat → Bool} (hb : β id = true) (h : H id = .cells ver T 1 (l.map I64)) : FRes H β anyAV (.ref id ver 0 l.length) (eI l) := FRes.map1 (f := I64) (fun _ => rfl) (fun _ => rfl) rfl hb h
theorem n_markIntS {k : Int} {H : Heap} {K : AV → Heap → Prop} (hK : K (I64 k) H) : ACall Tryz.prog 25 [.nil, I64 k] H K := by
  refine ACall.pure (R := fun r _ => r = I64 k) rfl ?_ fun r H' h => by subst h; exact ⟨_, .cl rfl, rfl, hK⟩
  refine call25 (by simp) ?_
  simp only [Tryz.results25, Tryz.ntmps25, Tryz.f25, Option.getD_some, pl25]
  simp only [go_sem]
  refine ALoop.intro (pl := pl25) (fun q env H => env 0 = .nil ∧ env 1 = I64 k ∧ env 5 = I64 0) 0 (by kernel_rfl) ?_ ?_
  · simp only [go_sem]
  · rintro q env H ⟨e0, e1, e5⟩
    simp only [go_sem, e0, e1, e5]
end Go.Proofs.YteegphdelekdaaaGreat

set_option linter.unusedVariables false
set_option linter.unusedSimpArgs false
namespace Go.Proofs.YteegphdelekdaaaGreat
open Go.Abs Go.IntWalk
set_option maxRecDepth 100000
attribute [local go_sem] eI eU eNs eN cN eChs eCh cCh eCos eCo cCo eP take_map
theorem m_eqProgram {d : Nat} {A : List AV} {p q : PProg} {H H1 : Heap} {K : AV → Heap → Prop} (hA : oP d H1 p = A) (ha : atP d H1 p) (hcg : ∀ i, d ≤ i → H i = H1 i) (hp : smProgram p) (hq : smProgram q) (hK : K (.bool (decide (p = q))) H) : ACall Tryz.prog 20 [.agg A, eP q] H K := by
  have e1 : oP d H p = oP d H1 p := oP_congr fun i h _ => hcg i h
  rw [← hA, ← e1]
  exact l_eqProgram (atP_congr (fun i h _ => hcg i h) ha) hp hq hK
theorem m_markProgram {d : Nat} {A : List AV} {p : PProg} {k : Int} {H H1 : Heap} {K : AV → Heap → Prop} (hA : oP d H1 p = A) (ha : atP d H1 p) (hcg : ∀ i, d ≤ i → H i = H1 i) (hd : 1000000 ≤ d) (hsm : smProgram p) (hk0 : 0 ≤ k) (hk : k ≤ 1000000)
    (hK : ∀ k' H', (∀ i, i < d ∨ d + szP p ≤ i → H' i = H i) → k ≤ k' → k' ≤ k + 4000000000000000000 → K (I64 k') H') : ACall Tryz.prog 23 [.agg A, I64 k] H K := by
  have e1 : oP d H p = oP d H1 p := oP_congr fun i h _ => hcg i h
  rw [← hA, ← e1]
  exact o_markProgram hd (atP_congr (fun i h _ => hcg i h) ha) hsm hk0 hk hK
theorem frC {k : Int} {n : Nat} {H : Heap} {id ver T : Nat} {β : Nat → Bool} (hb : β id = true) (h : H id = .cells ver T 1 ((cnt k n).map I64)) : FRes H β anyAV (.ref id ver 0 n) (eI (cnt k n)) := by
  have := frI (l := cnt k n) hb h
  rwa [cnt_len] at this
end Go.Proofs.YteegphdelekdaaaGreat
