/- Texts of ours, joined: T20 T21 T22 T23 T24 T25. -/
import Derived.Test.YtjkcoldpecdajaaW2
set_option linter.unusedVariables false
set_option linter.unusedSimpArgs false
namespace Go.Proofs.Ytjkcoldpecdajaa
open Go.Abs Go.IntWalk
set_option maxRecDepth 100000
attribute [local go_sem] eI eGs eC eB eBs take_map take_cG2 len_cG2
/-- 'add', inside: the circuit's block is 1000000, its gates are 1000001. -/
theorem k_add {v gv : Nat} {ins carry : Int} {gs : List Gate} {os a b : List Int} {v0 : Nat} (hab : a.length = b.length) (ha : a.length ≤ 1000) (hi : -100 ≤ ins) (hi2 : ins ≤ 100) (hl : gs.length ≤ 10000) :
    ACall Try.prog 85 [.ptr 1000000 v 0, eI a, eI b, I64 carry] (hp [.cells v 117 1 [I64 ins, .ref 1000001 gv 0 gs.length, eI os], .cells gv 119 3 (gs.flatMap cG), .gone v0]) (fun r H' => ∃ gv' rv,
      let gs' := gs ++ addG (ins + gs.length) (a.zip b) carry
      r = .ref 1000002 rv 0 a.length ∧ H' 1000000 = .cells v 117 1 [I64 ins, .ref 1000001 gv' 0 gs'.length, eI os] ∧ H' 1000001 = .cells gv' 119 3 (gs'.flatMap cG) ∧ H' 1000002 = .cells rv 3 1 ((addW (ins + gs.length) a.length).map I64)) := by
  refine call85 (by simp) ?_
  simp only [Try.results85, Try.ntmps85, Try.f85, Option.getD_some, pl85]
  simp only [go_sem, eI]
  refine ALoop.thaw 1000002 3 1 (t := 9) (by simp only [go_sem]) ?_
  refine ALoop.intro (pl := pl85) (fun k env H => ∃ (i gv' rv : Nat) (gs' : List Gate) (ws : List Int) (c : Int), env 0 = .ptr 1000000 v 0 ∧ env 1 = eI a ∧ env 2 = eI b ∧ env 3 = I64 c ∧ env 9 = .ref 1000002 rv 0 ws.length ∧ env 16 = I64 a.length ∧ env 17 = I64 i ∧
    H 1000000 = .cells v 117 1 [I64 ins, .ref 1000001 gv' 0 gs'.length, eI os] ∧ H 1000001 = .cells gv' 119 3 (gs'.flatMap cG) ∧ H 1000002 = .cells rv 3 1 (ws.map I64) ∧ i + k = a.length ∧ gs'.length = gs.length + 5 * i ∧ ws.length = i ∧
    gs' ++ addG (ins + gs'.length) ((a.zip b).drop i) c = gs ++ addG (ins + gs.length) (a.zip b) carry ∧ ws ++ addW (ins + gs'.length) k = addW (ins + gs.length) a.length) a.length (by kernel_rfl) ?_ ?_
  · simp only [go_sem, eI]
    exact ⟨0, gv, _, gs, [], carry, rfl, rfl, by simp, rfl, rfl, rfl, by omega, by omega, rfl, by simp, by simp⟩
  · rintro k env H ⟨i, gv', rv, gs', ws, c, e0, e1, e2, e3, e9, e16, e17, b0, b1, bw, hk, hgl, hwl, hg, hw⟩
    by_cases hz : (i : Int) < a.length
    · obtain ⟨x, hx⟩ : ∃ x, a[i]? = some x := ⟨_, List.getElem?_eq_getElem (by omega)⟩
      obtain ⟨y, hy⟩ : ∃ y, b[i]? = some y := ⟨_, List.getElem?_eq_getElem (by omega)⟩
      have h0 : (0 : Int) ≤ i := by omega
      have hw1 : IntKind.wrap .i64 ((i : Int) + 1) = i + 1 := i64_in _ (by omega)
      simp only [go_sem, pl85, e0, e1, e2, e3, e9, e16, e17, b0, b1, bw, eI, hz, hx, hy, h0]
      refine c_gateB (id := 1000000) (gid := 1000001) (gv := gv') (ins := ins) (gs := gs') (os := os) (by omega) (by omega) (by omega) (by first | omega | (simp only [List.length_append, List.length_cons, List.length_nil]; omega)) (by simp only [go_sem, b0, eI]) (by simp only [go_sem, b1]) ?_
      simp only [go_sem, pl85, e0, e1, e2, e3, e9, e16, e17, b0, b1, bw, eI, hz, hx, hy, h0, hw1]
      refine c_gateB (id := 1000000) (gid := 1000001) (gv := gv' + 1) (ins := ins) (gs := (gs' ++ [(5, x, y)])) (os := os) (by omega) (by omega) (by omega) (by first | omega | (simp only [List.length_append, List.length_cons, List.length_nil]; omega)) (by simp only [go_sem, b0, eI]) (by simp only [go_sem, b1]) ?_
      simp only [go_sem, pl85, e0, e1, e2, e3, e9, e16, e17, b0, b1, bw, eI, hz, hx, hy, h0, hw1]
      refine c_gateB (id := 1000000) (gid := 1000001) (gv := gv' + 1 + 1) (ins := ins) (gs := ((gs' ++ [(5, x, y)]) ++ [(5, ins + gs'.length, c)])) (os := os) (by omega) (by omega) (by omega) (by first | omega | (simp only [List.length_append, List.length_cons, List.length_nil]; omega)) (by simp only [go_sem, b0, eI]) (by simp only [go_sem, b1]) ?_
      simp only [go_sem, pl85, e0, e1, e2, e3, e9, e16, e17, b0, b1, bw, eI, hz, hx, hy, h0, hw1]
      refine c_gateB (id := 1000000) (gid := 1000001) (gv := gv' + 1 + 1 + 1) (ins := ins) (gs := (((gs' ++ [(5, x, y)]) ++ [(5, ins + gs'.length, c)]) ++ [(3, x, y)])) (os := os) (by omega) (by omega) (by omega) (by first | omega | (simp only [List.length_append, List.length_cons, List.length_nil]; omega)) (by simp only [go_sem, b0, eI]) (by simp only [go_sem, b1]) ?_
      simp only [go_sem, pl85, e0, e1, e2, e3, e9, e16, e17, b0, b1, bw, eI, hz, hx, hy, h0, hw1]
      refine c_gateB (id := 1000000) (gid := 1000001) (gv := gv' + 1 + 1 + 1 + 1) (ins := ins) (gs := ((((gs' ++ [(5, x, y)]) ++ [(5, ins + gs'.length, c)]) ++ [(3, x, y)]) ++ [(3, ins + gs'.length, c)])) (os := os) (by omega) (by omega) (by omega) (by first | omega | (simp only [List.length_append, List.length_cons, List.length_nil]; omega)) (by simp only [go_sem, b0, eI]) (by simp only [go_sem, b1]) ?_
      simp only [go_sem, pl85, e0, e1, e2, e3, e9, e16, e17, b0, b1, bw, eI, hz, hx, hy, h0, hw1]
      refine ⟨by omega, ?_⟩
      have hd : (a.zip b).drop i = (x, y) :: (a.zip b).drop (i + 1) := drop_step (List.getElem?_zip_eq_some.2 ⟨hx, hy⟩)
      obtain ⟨k', rfl⟩ : ∃ k', k = k' + 1 := ⟨k - 1, by omega⟩
      rw [hd, addG] at hg
      rw [addW] at hw
      have hl1 : ((gs' ++ add1 (ins + gs'.length) x y c).length : Nat) = gs'.length + 5 := by simp [add1]
      refine ⟨k', by omega, i + 1, _, _, gs' ++ add1 (ins + gs'.length) x y c, ws ++ [ins + gs'.length + 1], ins + gs'.length + 4, congrArg I64 (by omega), by rw [List.length_append]; rfl, rfl, by rw [hl1], ?_, ?_, by omega, by rw [hl1]; omega, by rw [List.length_append, hwl]; rfl, ?_, ?_⟩
      · congr 1
        rw [show gs' ++ [(5, x, y)] ++ [(5, ins + ↑gs'.length, c)] ++ [(3, x, y)] ++ [(3, ins + ↑gs'.length, c)] ++ [(4, ins + ↑(gs'.length + 1 + 1), ins + ↑(gs'.length + 1 + 1 + 1))] = gs' ++ add1 (ins + gs'.length) x y c from ?_]
        simp [add1]
        omega
      · congr 1
        rw [List.map_append]
        congr 2
        exact congrArg I64 (by omega)
      · rw [hl1, ← hg, List.append_assoc, show (ins + ((gs'.length + 5 : Nat) : Int)) = ins + gs'.length + 5 by omega]
      · rw [hl1, ← hw, List.append_assoc, show (ins + ((gs'.length + 5 : Nat) : Int)) = ins + gs'.length + 5 by omega]
        rfl
    · simp only [go_sem, pl85, e0, e1, e2, e3, e9, e16, e17, b0, b1, bw, eI, hz]
      have hk0 : k = 0 := by omega
      subst hk0
      rw [List.drop_of_length_le (by simp; omega), addG, List.append_nil] at hg
      rw [addW, List.append_nil] at hw
      have hi2 : i = a.length := by omega
      refine ⟨gv', rv, by rw [hwl, hi2], by rw [hg, List.length_append], by rw [hg], by rw [hw]⟩
theorem c_add {id gid d v gv : Nat} {ins carry : Int} {gs : List Gate} {os a b : List Int} {v0 : Nat} {H : Heap} {K : AV → Heap → Prop} (hn1 : id ≠ gid) (hn2 : id ≠ d) (hn3 : gid ≠ d) (hab : a.length = b.length) (ha : a.length ≤ 1000) (hi : -100 ≤ ins) (hi2 : ins ≤ 100) (hl : gs.length ≤ 10000)
    (h0 : H id = .cells v 117 1 [I64 ins, .ref gid gv 0 gs.length, eI os]) (h1 : H gid = .cells gv 119 3 (gs.flatMap cG)) (hd : H d = .gone v0)
    (hK : ∀ gv' rv gs', gs' = gs ++ addG (ins + gs.length) (a.zip b) carry → K (.ref d rv 0 a.length) (upd (upd (upd H id (.cells v 117 1 [I64 ins, .ref gid gv' 0 gs'.length, eI os])) gid (.cells gv' 119 3 (gs'.flatMap cG))) d (.cells rv 3 1 ((addW (ins + gs.length) a.length).map I64)))) :
    ACall Try.prog 85 [.ptr id v 0, eI a, eI b, I64 carry] H K := by
  refine ACall.hand [id, gid, d] [.cells v 117 1 [I64 ins, .ref 1000001 gv 0 gs.length, eI os], .cells gv 119 3 (gs.flatMap cG), .gone v0] (args' := [.ptr 1000000 v 0, eI a, eI b, I64 carry]) (by simp [hn1, hn2, hn3]) ?_ ?_ ?_ ?_ (k_add hab ha hi hi2 hl) ?_
  · exact ⟨h0, by rw [h1, Blk.ren, renL_closed _ _ (cl_cG gs)], hd, trivial⟩
  · simp only [List.all_cons, List.all_nil, inB_cl (cl_cG gs)]; rfl
  · rfl
  · rfl
  · rintro r' H' ⟨gv', rv, rfl, h2, h3, h4⟩
    refine ⟨_, [_, _, _], ⟨h2, h3, h4, trivial⟩, rfl, ?_, .keep _ rfl, ?_⟩
    · simp only [List.all_cons, List.all_nil, inB_cl (cl_cG _), inB_cl (cl_I _)]; rfl
    · simp only [lays, Blk.ren, renL_closed _ _ (cl_cG _), renL_closed _ _ (cl_I _)]
      exact hK gv' rv _ rfl
end Go.Proofs.Ytjkcoldpecdajaa

set_option linter.unusedVariables false
set_option linter.unusedSimpArgs false
namespace Go.Proofs.Ytjkcoldpecdajaa
open Go.Abs Go.IntWalk
set_option maxRecDepth 100000
attribute [local go_sem] eI eGs eC eB eBs take_map take_cG2 len_cG2
theorem c_goodSv {a : AV} {c : Circ} {H : Heap} {K : AV → Heap → Prop} (hc : CircOk c) (hv : View H (fun _ => false) id (fun _ => true) a (eC c)) (hK : K (.bool (decide (goodC c))) H) : ACall Try.prog 19 [a] H K :=
  ACall.peek (args' := [eC c]) (R := fun r _ => r = .bool (decide (goodC c))) (c_goodS hc rfl) (.cons _ _ _ _ hv .nil) fun r _ h => by subst h; exact ⟨rfl, hK⟩
theorem c_addS {c : Circ} {a b : List Int} {carry : Int} {H : Heap} {K : AV → Heap → Prop} (hc : CircOk c) (ha : a.length ≤ 1000000000) (hb : b.length ≤ 1000000000) (hK : K (eAdd (addOf c a b carry)) H) : ACall Try.prog 15 [eC c, eI a, eI b, I64 carry] H K := by
  obtain ⟨ins, gs, os⟩ := c
  refine ACall.pure (R := fun r H' => Res (fun _ => false) anyAV H' r (eAdd (addOf (ins, gs, os) a b carry))) rfl ?_ ?_
  · refine call15 (by simp) ?_
    simp only [Try.results15, Try.ntmps15, Try.f15, Option.getD_some, pl15]
    simp only [go_sem]
    have nope : ∀ (H : Heap), ¬ ((listsOk (ins, gs, os) a b ∧ 0 ≤ carry ∧ carry ≤ wiresOf (ins, gs, os) - 1) ∧ goodC (ins, gs ++ addG (wiresOf (ins, gs, os)) (a.zip b) carry, os)) → Res (fun _ => false) anyAV H (.tup [.agg [I64 0, .nil, .nil], .nil, .bool false]) (eAdd (addOf (ins, gs, os) a b carry)) := fun H h => by
      simp only [addOf, if_neg h, eAdd]
      exact .tup3 (.agg3 (.cl rfl) (.frz _ _ (.nil 3)) (.frz _ _ (.nil 1))) (.frz _ _ (.nil 1)) (.cl rfl)
    refine c_lists (c := (ins, gs, os)) (a := a) (b := b) hc ha hb ?_
    by_cases h1 : listsOk (ins, gs, os) a b
    · have hB := good_bounds h1.1
      simp only at hB
      have hl := h1.2.1
      have hl2 := h1.2.2.1
      simp only [go_sem, h1]
      refine c_w4 (c := (ins, gs, os)) (.cl rfl) (by simp only; omega) (by simp only; omega) ?_
      have hw : IntKind.wrap .i64 (ins + (gs.length : Int) - 1) = ins + gs.length - 1 := i64_in _ (by omega)
      simp only [go_sem, hw]
      refine c_in ?_
      by_cases h2 : 0 ≤ carry ∧ carry ≤ ins + gs.length - 1
      · simp only [go_sem, h2]
        refine c_own (c := (ins, gs, os)) 900 (v0 := 0) (by simp only [go_sem]; rfl) hc fun ver => ?_
        simp only [go_sem]
        refine c_add (id := 30) (gid := 900) (d := 901) (ins := ins) (gs := gs) (os := os) (a := a) (b := b) (gv := ver) (v0 := 0) (by omega) (by omega) (by omega) hl (by omega) (by omega) (by omega) (by omega) (by simp only [go_sem]) (by simp only [go_sem]) (by simp only [go_sem]; rfl) fun gv' rv gs' hgs => ?_
        have hgl : gs'.length = gs.length + 5 * a.length := by rw [hgs, List.length_append, addG_len, List.length_zip, hl, Nat.min_self]
        simp only [go_sem]
        refine c_goodSv (c := (ins, gs', os)) ⟨by simp only; omega, hc.2⟩ (.agg3 (.cl rfl) (.frz _ _ (frzGn (T := 119) rfl rfl (by simp only [go_sem]))) (.cl rfl)) ?_
        have h3 : 0 ≤ carry ∧ carry ≤ wiresOf (ins, gs, os) - 1 := h2
        by_cases h4 : goodC (ins, gs', os)
        · simp only [go_sem, h4]
          have yes : addOf (ins, gs, os) a b carry = ((ins, gs', os), addW (ins + gs.length) a.length, true) := by
            simp only [addOf]
            rw [if_pos ⟨⟨h1, h3⟩, by rw [hgs] at h4; exact h4⟩, hgs]
            rfl
          rw [yes]
          exact .tup3 (.agg3 (.cl rfl) (.frz _ _ (frzGn (T := 119) rfl rfl (by simp only [go_sem]))) (.cl rfl)) (resIn (T := 3) (addW_len _ _).symm rfl (by simp only [go_sem])) (.cl rfl)
        · simp only [go_sem, h4]
          exact nope _ fun h => h4 (by rw [hgs]; exact h.2)
      · simp only [go_sem, h2]
        exact nope _ fun h => h2 h.1.2
    · simp only [go_sem, h1]
      exact nope _ fun h => h1 h.1.1
  · rintro r H' h
    exact ⟨_, h, rfl, hK⟩
end Go.Proofs.Ytjkcoldpecdajaa

set_option linter.unusedVariables false
set_option linter.unusedSimpArgs false
namespace Go.Proofs.Ytjkcoldpecdajaa
open Go.Abs Go.IntWalk
set_option maxRecDepth 100000
attribute [local go_sem] eI eGs eC eB eBs take_map take_cG2 len_cG2
theorem cl_B (l : List Bool) : closedL (l.map .bool) = true := cll_map fun _ => rfl
theorem sc_B (l : List Bool) : (l.map AV.bool).all AV.scalar = true := sc_map (fun _ => rfl) l
def wv (acc : List Bool) (x : Int) : Bool := (acc[x.toNat]?).getD false
/-- The value of a gate. -/
def gval (acc : List Bool) (g : Gate) : Bool :=
  if g.1 = 1 then decide (g.2.1 = 1) else if g.1 = 2 then !wv acc g.2.1 else if g.1 = 3 then wv acc g.2.1 && wv acc g.2.2 else if g.1 = 4 then wv acc g.2.1 || wv acc g.2.2 else !(wv acc g.2.1 == wv acc g.2.2)
def runW : List Gate → List Bool → List Bool
  | [], acc => acc
  | g :: gs, acc => runW gs (acc ++ [gval acc g])
def allOf (c : Circ) (ins : List Bool) : List Bool × Bool := if goodC c ∧ (ins.length : Int) = c.1 then (runW c.2.1 ins, true) else ([], false)
theorem runW_len : ∀ (gs : List Gate) (acc : List Bool), (runW gs acc).length = acc.length + gs.length
  | [], acc => rfl
  | g :: gs, acc => by rw [runW, runW_len gs]; simp; omega
theorem resBn {L : Nat → Bool} {H : Heap} {id ver T n : Nat} {l : List Bool} (hn : n = l.length) (hL : L id = false) (h : H id = .cells ver T 1 (l.map .bool)) : Res L anyAV H (.ref id ver 0 n) (eBs l) := by
  exact Res.map1 (f := AV.bool) (fun _ => rfl) (fun _ => rfl) hn hL h
theorem c_cloneB {l : List Bool} {H : Heap} {K : AV → Heap → Prop} (d : Nat) {v0 : Nat} (hd : H d = .gone v0) (hl : l.length ≤ 1000000000) (hK : ∀ ver, K (.ref d ver 0 l.length) (upd H d (.cells ver 4 1 (l.map .bool)))) : ACall Try.prog 153 [eBs l] H K := by
  refine ACall.own1 d hd rfl (cl_B l) ?_ hK
  refine ACall.own (R := fun r H' => (∃ v, r = .ref 5 v 0 l.length ∧ H' 5 = .cells v 4 1 (l.map .bool)) ∨ (l = [] ∧ r = .nil)) 1000000 (by omega) ?_ ?_
  · refine call153 (by simp) ?_
    simp only [Try.results153, Try.ntmps153, Try.f153, Option.getD_some, pl153]
    simp only [go_sem]
    refine ⟨⟨_, rfl⟩, fun b hb => ?_⟩
    cases b
    · simp only [go_sem, flat_map1 (f := AV.bool) (fun _ => rfl) l]
      exact ⟨by omega, sc_B l, .inl ⟨_, rfl, rfl⟩⟩
    · have hb := hb rfl
      simp only [List.map_eq_nil_iff] at hb
      subst hb
      simp only [go_sem, or_true]
  · rintro r H' (⟨v, rfl, h⟩ | ⟨rfl, rfl⟩)
    · exact .inl ⟨5, v, 4, 1, _, _, by omega, h, .ref 0 _, _, rfl, by rw [upd_same]⟩
    · exact .inr (.inl ⟨4, 1, _, .nil, _, rfl, by rw [upd_same]; rfl⟩)
theorem wv_at {acc : List Bool} {x : Int} (h0 : 0 ≤ x) (h1 : x < acc.length) : acc[x.toNat]? = some (wv acc x) := by
  unfold wv
  rw [List.getElem?_eq_getElem (by omega)]
  rfl
theorem k_runI {ci : Int} {gs : List Gate} {os : List Int} {ins : List Bool} (bs : List Blk) (hc : goodC (ci, gs, os)) (hi : (ins.length : Int) = ci) : ACall Try.prog 89 [eC (ci, gs, os), eBs ins] (hp bs) (fun r H' => ∃ v, r = .ref 902 v 0 (runW gs ins).length ∧ H' 902 = .cells v 4 1 ((runW gs ins).map .bool)) := by
  have hB := good_bounds hc
  simp only at hB
  refine call89 (by simp) ?_
  simp only [Try.results89, Try.ntmps89, Try.f89, Option.getD_some, pl89]
  simp only [go_sem]
  refine c_cloneB (l := ins) 902 (v0 := 0) (by simp only [go_sem]; rfl) (by omega) fun ver => ?_
  simp only [go_sem]
  refine ALoop.intro (pl := pl89) (fun k env H => ∃ (i bv : Nat) (acc : List Bool), env 5 = .ref 902 bv 0 acc.length ∧ env 12 = eGs gs ∧ env 13 = I64 gs.length ∧ env 14 = I64 i ∧ H 902 = .cells bv 4 1 (acc.map .bool) ∧ i + k = gs.length ∧ (acc.length : Int) = ci + i ∧ gatesOk (ci + i) (gs.drop i) ∧ runW (gs.drop i) acc = runW gs ins) gs.length (by kernel_rfl) ?_ ?_
  · simp only [go_sem]
    exact ⟨0, ver, ins, rfl, rfl, rfl, by omega, by omega, by simpa using hc.2.2.2.1, rfl⟩
  · rintro k env H ⟨i, bv, acc, e5, e12, e13, e14, b, hk, hl, hg, hr⟩
    by_cases hz : (i : Int) < gs.length
    · obtain ⟨p, hp⟩ : ∃ p, gs[i]? = some p := ⟨_, List.getElem?_eq_getElem (by omega)⟩
      obtain ⟨kd, x, y⟩ := p
      have h0 : (0 : Int) ≤ i := by omega
      have hw1 : IntKind.wrap .i64 ((i : Int) + 1) = i + 1 := i64_in _ (by omega)
      rw [drop_step hp, gatesOk] at hg
      rw [drop_step hp, runW] at hr
      have fin : ∀ (b : Bool), b = gval acc (kd, x, y) → ∃ k', k' < k ∧ ∃ (i' bv' : Nat) (acc' : List Bool), AV.ref 902 (bv + 1) 0 (acc.length + 1) = .ref 902 bv' 0 acc'.length ∧ AV.int .i64 (i + 1) = I64 i' ∧ Blk.cells (bv + 1) 4 1 (acc.map AV.bool ++ [AV.bool b]) = .cells bv' 4 1 (acc'.map AV.bool) ∧ i' + k' = gs.length ∧ (acc'.length : Int) = ci + i' ∧ gatesOk (ci + i') (gs.drop i') ∧ runW (gs.drop i') acc' = runW gs ins := fun b hb => by
        subst hb
        refine ⟨k - 1, by omega, i + 1, bv + 1, acc ++ [gval acc (kd, x, y)], by simp, rfl, by simp, by omega, by simp; omega, ?_, hr⟩
        have := hg.2
        rwa [show ci + ((i + 1 : Nat) : Int) = ci + i + 1 by omega]
      rcases hg.1 with ⟨hk1, hx, hy⟩ | ⟨hk1, hx, hy⟩ | ⟨hk1, hx, hy⟩
      · simp only at hk1 hx hy
        subst hk1 hy
        simp only [go_sem, pl89, e5, e12, e13, e14, b, hz, hp, h0, eG, cG, hw1]
        exact ⟨by omega, fin _ rfl⟩
      · simp only at hk1 hx hy
        subst hk1 hy
        have hx0 := hx.1
        have hx1 : x < acc.length := by omega
        have ax := wv_at hx.1 hx1
        simp only [go_sem, pl89, e5, e12, e13, e14, b, hz, hp, h0, eG, cG, hw1, hx0, hx1, ax]
        exact ⟨by omega, fin _ rfl⟩
      · simp only at hk1 hx hy
        have hx0 := hx.1
        have hx1 : x < acc.length := by omega
        have ax := wv_at hx.1 hx1
        have hy0 := hy.1
        have hy1 : y < acc.length := by omega
        have ay := wv_at hy.1 hy1
        rcases hk1 with rfl | rfl | rfl
        · cases hb1 : wv acc x
          · rw [hb1] at ax
            simp only [go_sem, pl89, e5, e12, e13, e14, b, hz, hp, h0, eG, cG, hw1, hx0, hx1, ax]
            exact ⟨by omega, fin _ (by simp [gval, hb1])⟩
          · rw [hb1] at ax
            simp only [go_sem, pl89, e5, e12, e13, e14, b, hz, hp, h0, eG, cG, hw1, hx0, hx1, ax, hy0, hy1, ay]
            exact ⟨by omega, fin _ (by simp [gval, hb1])⟩
        · cases hb1 : wv acc x
          · rw [hb1] at ax
            simp only [go_sem, pl89, e5, e12, e13, e14, b, hz, hp, h0, eG, cG, hw1, hx0, hx1, ax, hy0, hy1, ay]
            exact ⟨by omega, fin _ (by simp [gval, hb1])⟩
          · rw [hb1] at ax
            simp only [go_sem, pl89, e5, e12, e13, e14, b, hz, hp, h0, eG, cG, hw1, hx0, hx1, ax]
            exact ⟨by omega, fin _ (by simp [gval, hb1])⟩
        · simp only [go_sem, pl89, e5, e12, e13, e14, b, hz, hp, h0, eG, cG, hw1, hx0, hx1, ax, hy0, hy1, ay]
          exact ⟨by omega, fin _ rfl⟩
    · simp only [go_sem, pl89, e5, e12, e13, e14, b, hz]
      rw [List.drop_of_length_le (by omega), runW] at hr
      exact ⟨bv, by rw [hr], by rw [hr]⟩
theorem c_runI {c : Circ} {ins : List Bool} {H : Heap} {K : AV → Heap → Prop} (hc : goodC c) (hi : (ins.length : Int) = c.1) (hK : K (eBs (runW c.2.1 ins)) H) : ACall Try.prog 89 [eC c, eBs ins] H K := by
  refine ACall.pure rfl (by rw [← hp_nil]; exact k_runI [] hc hi) ?_
  rintro r H' ⟨v, rfl, h⟩
  exact ⟨_, resBn rfl rfl h, rfl, hK⟩
end Go.Proofs.Ytjkcoldpecdajaa

set_option linter.unusedVariables false
set_option linter.unusedSimpArgs false
namespace Go.Proofs.Ytjkcoldpecdajaa
open Go.Abs Go.IntWalk
set_option maxRecDepth 100000
attribute [local go_sem] eI eGs eC eB eBs take_map take_cG2 len_cG2
theorem k_runS {ci : Int} {gs : List Gate} {os : List Int} {ins : List Bool} (bs : List Blk) (hc : goodC (ci, gs, os)) (hi : (ins.length : Int) = ci) : ACall Try.prog 90 [eC (ci, gs, os), eBs ins] (hp bs) (fun r H' => ∃ v, r = .ref 9 v 0 (runW gs ins).length ∧ H' 9 = .cells v 4 1 ((runW gs ins).map .bool)) := by
  have hB := good_bounds hc
  simp only at hB
  refine call90 (by simp) ?_
  simp only [Try.results90, Try.ntmps90, Try.f90, Option.getD_some, pl90]
  simp only [go_sem]
  simp only [flat_map1 (f := AV.bool) (fun _ => rfl) ins]
  refine ⟨by omega, sc_B ins, ?_⟩
  refine ALoop.intro (pl := pl90) (fun k env H => ∃ (i bv : Nat) (acc : List Bool), env 5 = .ref 9 bv 0 acc.length ∧ env 13 = eGs gs ∧ env 14 = I64 gs.length ∧ env 15 = I64 i ∧ H 9 = .cells bv 4 1 (acc.map .bool) ∧ i + k = gs.length ∧ (acc.length : Int) = ci + i ∧ gatesOk (ci + i) (gs.drop i) ∧ runW (gs.drop i) acc = runW gs ins) gs.length (by kernel_rfl) ?_ ?_
  · simp only [go_sem]
    exact ⟨0, _, ins, rfl, rfl, rfl, by omega, by omega, by simpa using hc.2.2.2.1, rfl⟩
  · rintro k env H ⟨i, bv, acc, e5, e12, e13, e14, b, hk, hl, hg, hr⟩
    by_cases hz : (i : Int) < gs.length
    · obtain ⟨p, hp⟩ : ∃ p, gs[i]? = some p := ⟨_, List.getElem?_eq_getElem (by omega)⟩
      obtain ⟨kd, x, y⟩ := p
      have h0 : (0 : Int) ≤ i := by omega
      have hw1 : IntKind.wrap .i64 ((i : Int) + 1) = i + 1 := i64_in _ (by omega)
      rw [drop_step hp, gatesOk] at hg
      rw [drop_step hp, runW] at hr
      have fin : ∀ (b : Bool), b = gval acc (kd, x, y) → ∃ k', k' < k ∧ ∃ (i' bv' : Nat) (acc' : List Bool), AV.ref 9 (bv + 1) 0 (acc.length + 1) = .ref 9 bv' 0 acc'.length ∧ AV.int .i64 (i + 1) = I64 i' ∧ Blk.cells (bv + 1) 4 1 (acc.map AV.bool ++ [AV.bool b]) = .cells bv' 4 1 (acc'.map AV.bool) ∧ i' + k' = gs.length ∧ (acc'.length : Int) = ci + i' ∧ gatesOk (ci + i') (gs.drop i') ∧ runW (gs.drop i') acc' = runW gs ins := fun b hb => by
        subst hb
        refine ⟨k - 1, by omega, i + 1, bv + 1, acc ++ [gval acc (kd, x, y)], by simp, rfl, by simp, by omega, by simp; omega, ?_, hr⟩
        have := hg.2
        rwa [show ci + ((i + 1 : Nat) : Int) = ci + i + 1 by omega]
      rcases hg.1 with ⟨hk1, hx, hy⟩ | ⟨hk1, hx, hy⟩ | ⟨hk1, hx, hy⟩
      · simp only at hk1 hx hy
        subst hk1 hy
        simp only [go_sem, pl90, e5, e12, e13, e14, b, hz, hp, h0, eG, cG, hw1]
        exact ⟨by omega, fin _ rfl⟩
      · simp only at hk1 hx hy
        subst hk1 hy
        have hx0 := hx.1
        have hx1 : x < acc.length := by omega
        have ax := wv_at hx.1 hx1
        simp only [go_sem, pl90, e5, e12, e13, e14, b, hz, hp, h0, eG, cG, hw1, hx0, hx1, ax]
        exact ⟨by omega, fin _ rfl⟩
      · simp only at hk1 hx hy
        have hx0 := hx.1
        have hx1 : x < acc.length := by omega
        have ax := wv_at hx.1 hx1
        have hy0 := hy.1
        have hy1 : y < acc.length := by omega
        have ay := wv_at hy.1 hy1
        rcases hk1 with rfl | rfl | rfl
        · cases hb1 : wv acc x
          · rw [hb1] at ax
            simp only [go_sem, pl90, e5, e12, e13, e14, b, hz, hp, h0, eG, cG, hw1, hx0, hx1, ax]
            exact ⟨by omega, fin _ (by simp [gval, hb1])⟩
          · rw [hb1] at ax
            simp only [go_sem, pl90, e5, e12, e13, e14, b, hz, hp, h0, eG, cG, hw1, hx0, hx1, ax, hy0, hy1, ay]
            exact ⟨by omega, fin _ (by simp [gval, hb1])⟩
        · cases hb1 : wv acc x
          · rw [hb1] at ax
            simp only [go_sem, pl90, e5, e12, e13, e14, b, hz, hp, h0, eG, cG, hw1, hx0, hx1, ax, hy0, hy1, ay]
            exact ⟨by omega, fin _ (by simp [gval, hb1])⟩
          · rw [hb1] at ax
            simp only [go_sem, pl90, e5, e12, e13, e14, b, hz, hp, h0, eG, cG, hw1, hx0, hx1, ax]
            exact ⟨by omega, fin _ (by simp [gval, hb1])⟩
        · simp only [go_sem, pl90, e5, e12, e13, e14, b, hz, hp, h0, eG, cG, hw1, hx0, hx1, ax, hy0, hy1, ay]
          exact ⟨by omega, fin _ rfl⟩
    · simp only [go_sem, pl90, e5, e12, e13, e14, b, hz]
      rw [List.drop_of_length_le (by omega), runW] at hr
      exact ⟨bv, by rw [hr], by rw [hr]⟩
theorem c_runS {c : Circ} {ins : List Bool} {H : Heap} {K : AV → Heap → Prop} (hc : goodC c) (hi : (ins.length : Int) = c.1) (hK : K (eBs (runW c.2.1 ins)) H) : ACall Try.prog 90 [eC c, eBs ins] H K := by
  refine ACall.pure rfl (by rw [← hp_nil]; exact k_runS [] hc hi) ?_
  rintro r H' ⟨v, rfl, h⟩
  exact ⟨_, resBn rfl rfl h, rfl, hK⟩

theorem c_allI {c : Circ} {ins : List Bool} {H : Heap} {K : AV → Heap → Prop} (hc : CircOk c) (hl : ins.length ≤ 1000000000) (hK : K (.tup [eBs (allOf c ins).1, .bool (allOf c ins).2]) H) : ACall Try.prog 21 [eC c, eBs ins] H K := by
  refine ACall.pure (R := fun r H' => Res (fun _ => false) anyAV H' r (.tup [eBs (allOf c ins).1, .bool (allOf c ins).2])) rfl ?_ ?_
  · refine call21 (by simp) ?_
    simp only [Try.results21, Try.ntmps21, Try.f21, Option.getD_some, pl21]
    simp only [go_sem]
    refine c_goodI (c := c) hc (.cl rfl) ?_
    by_cases h1 : goodC c
    · by_cases h2 : (ins.length : Int) = c.1
      · simp only [go_sem, h1, h2]
        refine c_runI (c := c) (ins := ins) h1 h2 ?_
        simp only [go_sem, allOf, h1, h2]
        exact .cl rfl
      · simp only [go_sem, h1, h2]
        simp only [allOf, h1, h2, and_false, if_false, eBs]
        exact .tup2 (.frz _ _ (.nil 1)) (.cl rfl)
    · simp only [go_sem, h1]
      simp only [allOf, h1, false_and, if_false, eBs]
      exact .tup2 (.frz _ _ (.nil 1)) (.cl rfl)
  · rintro r H' h
    exact ⟨_, h, rfl, hK⟩
theorem c_allS {c : Circ} {ins : List Bool} {H : Heap} {K : AV → Heap → Prop} (hc : CircOk c) (hl : ins.length ≤ 1000000000) (hK : K (.tup [eBs (allOf c ins).1, .bool (allOf c ins).2]) H) : ACall Try.prog 22 [eC c, eBs ins] H K := by
  refine ACall.pure (R := fun r H' => Res (fun _ => false) anyAV H' r (.tup [eBs (allOf c ins).1, .bool (allOf c ins).2])) rfl ?_ ?_
  · refine call22 (by simp) ?_
    simp only [Try.results22, Try.ntmps22, Try.f22, Option.getD_some, pl22]
    simp only [go_sem]
    refine c_goodS (c := c) hc ?_
    by_cases h1 : goodC c
    · by_cases h2 : (ins.length : Int) = c.1
      · simp only [go_sem, h1, h2]
        refine c_runS (c := c) (ins := ins) h1 h2 ?_
        simp only [go_sem, allOf, h1, h2]
        exact .cl rfl
      · simp only [go_sem, h1, h2]
        simp only [allOf, h1, h2, and_false, if_false, eBs]
        exact .tup2 (.frz _ _ (.nil 1)) (.cl rfl)
    · simp only [go_sem, h1]
      simp only [allOf, h1, false_and, if_false, eBs]
      exact .tup2 (.frz _ _ (.nil 1)) (.cl rfl)
  · rintro r H' h
    exact ⟨_, h, rfl, hK⟩
theorem k_allI {c : Circ} {ins : List Bool} (v0 : Nat) (hc : CircOk c) (h1 : goodC c) (h2 : (ins.length : Int) = c.1) : ACall Try.prog 21 [eC c, eBs ins] (hp [.gone v0]) (fun r H' => ∃ v, r = .tup [.ref 1000000 v 0 (runW c.2.1 ins).length, .bool true] ∧ H' 1000000 = .cells v 4 1 ((runW c.2.1 ins).map .bool)) := by
  refine call21 (by simp) ?_
  simp only [Try.results21, Try.ntmps21, Try.f21, Option.getD_some, pl21]
  simp only [go_sem]
  refine c_goodI (c := c) hc (.cl rfl) ?_
  simp only [go_sem, h1, h2]
  refine ACall.own1 (T := 4) (sz := 1) (len := (runW c.2.1 ins).length) (cs := (runW c.2.1 ins).map .bool) 1000000 (v0 := v0) (by simp only [go_sem]) rfl (cl_B _) ?_ fun ver => ?_
  · refine ACall.own 1000000 (by omega) (k_runI (ci := c.1) (gs := c.2.1) (os := c.2.2) [.gone v0] h1 h2) ?_
    rintro r H' ⟨v, rfl, h⟩
    exact .inl ⟨902, v, 4, 1, _, _, by omega, h, .ref 0 _, _, rfl, by rw [upd_same]⟩
  · simp only [go_sem]
    exact ⟨ver, rfl, rfl⟩
theorem o_allI {c : Circ} {ins : List Bool} {a : AV} {H : Heap} {K : AV → Heap → Prop} (d : Nat) {v0 : Nat} (hd : H d = .gone v0) (hc : CircOk c) (h1 : goodC c) (h2 : (ins.length : Int) = c.1) (hv : View H (inL 1) (rhoL [d]) (fun j => ![d].contains j) a (eBs ins))
    (hK : ∀ v, K (.tup [.ref d v 0 (runW c.2.1 ins).length, .bool true]) (upd H d (.cells v 4 1 ((runW c.2.1 ins).map .bool)))) : ACall Try.prog 21 [eC c, a] H K := by
  refine ACall.handL [d] [.gone v0] (by simp) ⟨by rw [hd]; rfl, trivial⟩ rfl (.cons _ _ _ _ (.cl rfl) (.cons _ _ _ _ hv .nil)) (k_allI v0 hc h1 h2) ?_
  rintro r' H' ⟨v, rfl, h⟩
  refine ⟨[_], ⟨h, trivial⟩, rfl, ?_, rfl, ?_⟩
  · simp only [List.all_cons, List.all_nil, Bool.and_true, inB_c]
    exact within_plainM (fun _ => rfl) _
  · simp only [lays, Blk.ren, renL_closed _ _ (cl_B _)]
    exact hK v

theorem k_allS {c : Circ} {ins : List Bool} (v0 : Nat) (hc : CircOk c) (h1 : goodC c) (h2 : (ins.length : Int) = c.1) : ACall Try.prog 22 [eC c, eBs ins] (hp [.gone v0]) (fun r H' => ∃ v, r = .tup [.ref 1000000 v 0 (runW c.2.1 ins).length, .bool true] ∧ H' 1000000 = .cells v 4 1 ((runW c.2.1 ins).map .bool)) := by
  refine call22 (by simp) ?_
  simp only [Try.results22, Try.ntmps22, Try.f22, Option.getD_some, pl22]
  simp only [go_sem]
  refine c_goodS (c := c) hc ?_
  simp only [go_sem, h1, h2]
  refine ACall.own1 (T := 4) (sz := 1) (len := (runW c.2.1 ins).length) (cs := (runW c.2.1 ins).map .bool) 1000000 (v0 := v0) (by simp only [go_sem]) rfl (cl_B _) ?_ fun ver => ?_
  · refine ACall.own 1000000 (by omega) (k_runS (ci := c.1) (gs := c.2.1) (os := c.2.2) [.gone v0] h1 h2) ?_
    rintro r H' ⟨v, rfl, h⟩
    exact .inl ⟨9, v, 4, 1, _, _, by omega, h, .ref 0 _, _, rfl, by rw [upd_same]⟩
  · simp only [go_sem]
    exact ⟨ver, rfl, rfl⟩
theorem o_allS {c : Circ} {ins : List Bool} {a : AV} {H : Heap} {K : AV → Heap → Prop} (d : Nat) {v0 : Nat} (hd : H d = .gone v0) (hc : CircOk c) (h1 : goodC c) (h2 : (ins.length : Int) = c.1) (hv : View H (inL 1) (rhoL [d]) (fun j => ![d].contains j) a (eBs ins))
    (hK : ∀ v, K (.tup [.ref d v 0 (runW c.2.1 ins).length, .bool true]) (upd H d (.cells v 4 1 ((runW c.2.1 ins).map .bool)))) : ACall Try.prog 22 [eC c, a] H K := by
  refine ACall.handL [d] [.gone v0] (by simp) ⟨by rw [hd]; rfl, trivial⟩ rfl (.cons _ _ _ _ (.cl rfl) (.cons _ _ _ _ hv .nil)) (k_allS v0 hc h1 h2) ?_
  rintro r' H' ⟨v, rfl, h⟩
  refine ⟨[_], ⟨h, trivial⟩, rfl, ?_, rfl, ?_⟩
  · simp only [List.all_cons, List.all_nil, Bool.and_true, inB_c]
    exact within_plainM (fun _ => rfl) _
  · simp only [lays, Blk.ren, renL_closed _ _ (cl_B _)]
    exact hK v

end Go.Proofs.Ytjkcoldpecdajaa

set_option linter.unusedVariables false
set_option linter.unusedSimpArgs false
namespace Go.Proofs.Ytjkcoldpecdajaa
open Go.Abs Go.IntWalk
/-! The plain law of the adder. -/
def bit (all : List Bool) (w : Int) : Nat := if 0 ≤ w ∧ all[w.toNat]? = some true then 1 else 0
def val (all : List Bool) : List Int → Nat
  | [] => 0
  | w :: ws => bit all w + 2 * val all ws
theorem bit_le (all : List Bool) (w : Int) : bit all w ≤ 1 := by unfold bit; split <;> omega
theorem val_lt (all : List Bool) : ∀ ws : List Int, val all ws < 2 ^ ws.length
  | [] => by simp [val]
  | w :: ws => by
    have := val_lt all ws
    have := bit_le all w
    simp only [val, List.length_cons, Nat.pow_succ]
    omega
theorem or_bit {n k : Nat} (hk : k ≤ 60) (hn : n < 2 ^ k) : abits .or .i64 (n : Int) ((2 ^ k : Nat) : Int) = ((n + 2 ^ k : Nat) : Int) := by
  have hp : 2 ^ k ≤ 2 ^ 60 := Nat.pow_le_pow_right (by omega) hk
  have h60 : (2 : Nat) ^ 60 = 1152921504606846976 := by decide
  simp only [abits]
  rw [BitVec.toNat_or]
  have e1 : (BitVec.ofInt IntKind.i64.bits (n : Int)).toNat = n := by
    rw [BitVec.ofInt_natCast, BitVec.toNat_ofNat]
    exact Nat.mod_eq_of_lt (by show n < 2 ^ 64; omega)
  have e2 : (BitVec.ofInt IntKind.i64.bits ((2 ^ k : Nat) : Int)).toNat = 2 ^ k := by
    rw [BitVec.ofInt_natCast, BitVec.toNat_ofNat]
    exact Nat.mod_eq_of_lt (by show 2 ^ k < 2 ^ 64; omega)
  rw [e1, e2]
  have e3 : n ||| 2 ^ k = n + 2 ^ k := by
    have := Nat.two_pow_add_eq_or_of_lt hn 1
    rw [Nat.mul_one] at this
    rw [Nat.or_comm, ← this, Nat.add_comm]
  rw [e3]
  exact i64_in _ (by omega)
theorem carr_val (all : List Bool) : ∀ (ws : List Int) (k n : Nat), n < 2 ^ k → k + ws.length ≤ 60 → carr all k ws (n : Int) = ((n + 2 ^ k * val all ws : Nat) : Int)
  | [], k, n, _, _ => by simp [carr, val]
  | w :: ws, k, n, hn, hk => by
    simp only [List.length_cons] at hk
    have hp : 2 ^ k ≤ 2 ^ 60 := Nat.pow_le_pow_right (by omega) (by omega)
    have h60 : (2 : Nat) ^ 60 = 1152921504606846976 := by decide
    have e1 : IntKind.wrap .i64 (1 * 2 ^ min k 64) = ((2 ^ k : Nat) : Int) := by
      rw [Nat.min_eq_left (by omega), Int.one_mul]
      have : ((2 : Int) ^ k) = ((2 ^ k : Nat) : Int) := by simp
      rw [this]
      exact i64_in _ (by omega)
    simp only [carr, val, bit]
    split
    · rw [e1, or_bit (by omega) hn, carr_val all ws (k + 1) (n + 2 ^ k) (by rw [Nat.pow_succ]; omega) (by omega)]
      congr 1
      rw [Nat.pow_succ, Nat.mul_add, Nat.mul_assoc]; omega
    · rw [carr_val all ws (k + 1) n (by rw [Nat.pow_succ]; omega) (by omega)]
      congr 1
      rw [Nat.pow_succ, Nat.mul_add, Nat.mul_assoc]; omega
theorem runW_app : ∀ (g1 g2 : List Gate) (acc : List Bool), runW (g1 ++ g2) acc = runW g2 (runW g1 acc)
  | [], g2, acc => rfl
  | g :: g1, g2, acc => by rw [List.cons_append, runW, runW, runW_app g1 g2]
theorem runW_pre : ∀ (gs : List Gate) (acc : List Bool) (i : Nat) (b : Bool), acc[i]? = some b → (runW gs acc)[i]? = some b
  | [], acc, i, b, h => h
  | g :: gs, acc, i, b, h => by
    rw [runW]
    refine runW_pre gs _ i b ?_
    rw [List.getElem?_append_left (List.getElem?_eq_some_iff.1 h).1]; exact h
theorem bit_of {all : List Bool} {w : Int} (h0 : 0 ≤ w) (h1 : w < all.length) : bit all w = (wv all w).toNat := by
  unfold bit wv
  rw [List.getElem?_eq_getElem (by omega)]
  simp only [h0, true_and, Option.some.injEq, Option.getD_some]
  cases all[w.toNat]'(by omega) <;> simp
theorem wv_pre {acc : List Bool} {gs : List Gate} {w : Int} (h0 : 0 ≤ w) (h1 : w < acc.length) : wv (runW gs acc) w = wv acc w := by
  unfold wv
  have h := List.getElem?_eq_getElem (l := acc) (i := w.toNat) (by omega)
  rw [runW_pre gs acc _ _ h, h]
theorem wv_app {acc l : List Bool} {w : Int} (h0 : 0 ≤ w) (h1 : w < acc.length) : wv (acc ++ l) w = wv acc w := by
  unfold wv
  rw [List.getElem?_append_left (by omega)]
theorem bit_pre {acc : List Bool} {gs : List Gate} {w : Int} (h0 : 0 ≤ w) (h1 : w < acc.length) : bit (runW gs acc) w = bit acc w := by
  rw [bit_of h0 h1, bit_of h0 (by rw [runW_len]; omega), wv_pre h0 h1]
theorem bit_app {acc l : List Bool} {w : Int} (h0 : 0 ≤ w) (h1 : w < acc.length) : bit (acc ++ l) w = bit acc w := by
  rw [bit_of h0 h1, bit_of h0 (by rw [List.length_append]; omega), wv_app h0 h1]
theorem val_app {acc l : List Bool} : ∀ (ws : List Int), (∀ w ∈ ws, 0 ≤ w ∧ w < acc.length) → val (acc ++ l) ws = val acc ws
  | [], _ => rfl
  | w :: ws, h => by
    simp only [val]
    rw [bit_app (h w (by simp)).1 (h w (by simp)).2, val_app ws fun x hx => h x (by simp [hx])]
theorem wv_end {acc : List Bool} {l : List Bool} {k : Nat} : wv (acc ++ l) ((acc.length : Int) + k) = (l[k]?).getD false := by
  unfold wv
  rw [show ((acc.length : Int) + k).toNat = acc.length + k by omega, List.getElem?_append_right (by omega), Nat.add_sub_cancel_left]
/-- The five gates of a place. -/
theorem run_add1 {acc : List Bool} {x y c : Int} (hx : 0 ≤ x ∧ x < acc.length) (hy : 0 ≤ y ∧ y < acc.length) (hc : 0 ≤ c ∧ c < acc.length) :
    runW (add1 acc.length x y c) acc = acc ++ [!(wv acc x == wv acc y), !(!(wv acc x == wv acc y) == wv acc c), wv acc x && wv acc y, !(wv acc x == wv acc y) && wv acc c, (wv acc x && wv acc y) || (!(wv acc x == wv acc y) && wv acc c)] := by
  have e0 : ∀ (l : List Bool), wv (acc ++ l) (acc.length : Int) = (l[0]?).getD false := fun l => by simpa using wv_end (acc := acc) (l := l) (k := 0)
  have e2 : ∀ (l : List Bool), wv (acc ++ l) ((acc.length : Int) + 2) = (l[2]?).getD false := fun l => by simpa using wv_end (acc := acc) (l := l) (k := 2)
  have e3 : ∀ (l : List Bool), wv (acc ++ l) ((acc.length : Int) + 3) = (l[3]?).getD false := fun l => by simpa using wv_end (acc := acc) (l := l) (k := 3)
  simp only [add1, runW, List.append_assoc, List.cons_append, List.nil_append]
  simp [gval, wv_app hx.1 hx.2, wv_app hy.1 hy.2, wv_app hc.1 hc.2, e0, e2, e3]
  cases wv acc x <;> cases wv acc y <;> cases wv acc c <;> rfl
theorem adder : ∀ (l : List (Int × Int)) (acc : List Bool) (c : Int), (∀ p ∈ l, (0 ≤ p.1 ∧ p.1 < acc.length) ∧ (0 ≤ p.2 ∧ p.2 < acc.length)) → (0 ≤ c ∧ c < acc.length) →
    val (runW (addG acc.length l c) acc) (addW acc.length l.length) = (val acc (l.map (·.1)) + val acc (l.map (·.2)) + bit acc c) % 2 ^ l.length
  | [], acc, c, _, _ => by simp [addW, val, Nat.mod_one]
  | (x, y) :: l, acc, c, h, hc => by
    obtain ⟨hx, hy⟩ := h (x, y) (by simp)
    simp only at hx hy
    simp only [addG, runW_app, run_add1 hx hy hc]
    generalize hq : [!(wv acc x == wv acc y), !(!(wv acc x == wv acc y) == wv acc c), wv acc x && wv acc y, !(wv acc x == wv acc y) && wv acc c, (wv acc x && wv acc y) || (!(wv acc x == wv acc y) && wv acc c)] = q
    have hql : q.length = 5 := by rw [← hq]; rfl
    have hl : ((acc ++ q).length : Int) = acc.length + 5 := by rw [List.length_append, hql]; omega
    have hl2 : (acc ++ q).length = acc.length + 5 := by rw [List.length_append, hql]
    have ih := adder l (acc ++ q) (acc.length + 4) (fun p hp => by
      have := h p (by simp [hp])
      rw [hl2]; omega) (by rw [hl2]; omega)
    rw [hl] at ih
    have hv1 : val (acc ++ q) (l.map (·.1)) = val acc (l.map (·.1)) := val_app _ fun w hw => by
      obtain ⟨p, hp, rfl⟩ := List.mem_map.1 hw; exact (h p (by simp [hp])).1
    have hv2 : val (acc ++ q) (l.map (·.2)) = val acc (l.map (·.2)) := val_app _ fun w hw => by
      obtain ⟨p, hp, rfl⟩ := List.mem_map.1 hw; exact (h p (by simp [hp])).2
    have hb4 : bit (acc ++ q) ((acc.length : Int) + 4) = ((wv acc x && wv acc y) || (!(wv acc x == wv acc y) && wv acc c)).toNat := by
      rw [bit_of (by omega) (by rw [hl2]; omega)]
      have := wv_end (acc := acc) (l := q) (k := 4)
      simp only [Int.cast_ofNat_Int] at this
      rw [show ((acc.length : Int) + 4) = (acc.length : Int) + ((4 : Nat) : Int) by rfl, wv_end, ← hq]
      rfl
    have hb1 : bit (runW (addG (acc.length + 5) l (acc.length + 4)) (acc ++ q)) ((acc.length : Int) + 1) = (!(!(wv acc x == wv acc y) == wv acc c)).toNat := by
      rw [bit_pre (by omega) (by rw [hl2]; omega), bit_of (by omega) (by rw [hl2]; omega)]
      rw [show ((acc.length : Int) + 1) = (acc.length : Int) + ((1 : Nat) : Int) by rfl, wv_end, ← hq]
      rfl
    rw [hv1, hv2, hb4] at ih
    simp only [addW, val, List.length_cons, List.map_cons]
    rw [hb1, ih, bit_of hx.1 hx.2, bit_of hy.1 hy.2, bit_of hc.1 hc.2]
    generalize val acc (l.map (·.1)) = A
    generalize val acc (l.map (·.2)) = B
    have key : ∀ (s m t n : Nat), s + 2 * (m % n) = (s + 2 * m) % (2 * n) ∨ 2 ≤ s := fun s m t n => by
      by_cases hs : 2 ≤ s
      · exact .inr hs
      · left
        rcases Nat.eq_zero_or_pos n with rfl | hn
        · simp
        · have h1 := Nat.mod_add_div m n
          have h2 := Nat.mod_lt m hn
          have e : s + 2 * m = s + 2 * (m % n) + (2 * n) * (m / n) := by
            have := Nat.mul_assoc 2 n (m / n)
            omega
          have e4 : (s + 2 * m) % (2 * n) = s + 2 * (m % n) := by
            rw [e, Nat.add_mul_mod_self_left]
            exact Nat.mod_eq_of_lt (by omega)
          exact e4.symm
    rw [Nat.pow_succ, Nat.mul_comm (2 ^ l.length) 2]
    cases wv acc x <;> cases wv acc y <;> cases wv acc c <;> simp only [BEq.rfl, Bool.not_true, Bool.not_false, Bool.toNat_true, Bool.toNat_false, Bool.and_true, Bool.and_false, Bool.or_true, Bool.or_false, Bool.true_beq, Bool.false_beq, Bool.true_and, Bool.false_and]
    all_goals
      first
      | (rcases key 0 (A + B + 0) 0 (2 ^ l.length) with h | h
         · rw [h]; congr 1; omega
         · omega)
      | (rcases key 1 (A + B + 0) 0 (2 ^ l.length) with h | h
         · rw [h]; congr 1; omega
         · omega)
      | (rcases key 0 (A + B + 1) 0 (2 ^ l.length) with h | h
         · rw [h]; congr 1; omega
         · omega)
      | (rcases key 1 (A + B + 1) 0 (2 ^ l.length) with h | h
         · rw [h]; congr 1; omega
         · omega)
end Go.Proofs.Ytjkcoldpecdajaa

set_option linter.unusedVariables false
set_option linter.unusedSimpArgs false
namespace Go.Proofs.Ytjkcoldpecdajaa
open Go.Abs Go.IntWalk
set_option maxRecDepth 100000
attribute [local go_sem] eI eGs eC eB eBs take_map take_cG2 len_cG2
theorem i64_nat (n : Nat) (h : n ≤ 9223372036854775807) : IntKind.i64.wrap (n : Int) = n := i64_in _ (by omega)
theorem frzBn {H : Heap} {β : Nat → Bool} {id ver T n : Nat} {l : List Bool} (hn : n = l.length) (hβ : β id = true) (h : H id = .cells ver T 1 (l.map .bool)) : FRes H β anyAV (.ref id ver 0 n) (eBs l) := FRes.map1 (f := AV.bool) (fun _ => rfl) (fun _ => rfl) hn hβ h
theorem v_carried {x y : AV} {a : List Bool} {ws : List Int} {H : Heap} {K : AV → Heap → Prop} (hx : View H (fun _ => false) id (fun _ => true) x (eBs a)) (hy : View H (fun _ => false) id (fun _ => true) y (eI ws)) (hl : a.length ≤ 1000000000) (hl2 : ws.length ≤ 1000000000) (hK : K (I64 (carr a 0 ws 0)) H) : ACall Try.prog 23 [x, y] H K :=
  ACall.peek (args' := [eBs a, eI ws]) (R := fun r _ => r = I64 (carr a 0 ws 0)) (c_carried hl hl2 rfl) (.cons _ _ _ _ hx (.cons _ _ _ _ hy .nil)) fun r _ h => by subst h; exact ⟨rfl, hK⟩
theorem v_sameBools {x y : AV} {a b : List Bool} {H : Heap} {K : AV → Heap → Prop} (hx : View H (fun _ => false) id (fun _ => true) x (eBs a)) (hy : View H (fun _ => false) id (fun _ => true) y (eBs b)) (hl : a.length ≤ 1000000000) (hl2 : b.length ≤ 1000000000) (hK : K (.bool (decide (a = b))) H) : ACall Try.prog 24 [x, y] H K :=
  ACall.peek (args' := [eBs a, eBs b]) (R := fun r _ => r = .bool (decide (a = b))) (c_sameBools hl hl2 rfl) (.cons _ _ _ _ hx (.cons _ _ _ _ hy .nil)) fun r _ h => by subst h; exact ⟨rfl, hK⟩
theorem c_law {code more : List Int} (hcode : ∀ b ∈ code, 0 ≤ b ∧ b ≤ 255) (hmore : ∀ b ∈ more, 0 ≤ b ∧ b ≤ 255) (hcl : code.length ≤ 9223372036854775807) {H : Heap} {K : AV → Heap → Prop} (hK : K (.bool true) H) : ACall Try.prog 3 [eB code, eB more] H K := by
  refine ACall.pure (R := fun r _ => r = .bool true) rfl ?_ fun r H' h => by subst h; exact ⟨_, .cl rfl, rfl, hK⟩
  refine call3 (by simp) ?_
  simp only [Try.results3, Try.ntmps3, Try.f3, Option.getD_some, pl3]
  simp only [go_sem]
  refine c_big (code := code) (more := more) hcl ?_
  by_cases hbig : (decide (1048576 < (code.length : Int)) || decide (1048576 - (code.length : Int) < more.length)) = true
  · simp only [go_sem, hbig]
  · rw [Bool.not_eq_true] at hbig
    have hsm : code.length ≤ 1048576 ∧ more.length ≤ 1048576 := by
      simp only [Bool.or_eq_false_iff, decide_eq_false_iff_not] at hbig; omega
    simp only [go_sem, hbig]
    refine c_draw hcode fun c a b carry hc1 hc2 hc3 hc4 hab ha => ?_
    have hcO : CircOk c := ⟨by omega, by omega⟩
    have hxb : (addOf c a b carry).1.2.1.length ≤ 500 ∧ (addOf c a b carry).1.2.2.length ≤ 10 ∧ (addOf c a b carry).2.1.length ≤ 17 := by
      unfold addOf
      simp only []
      split
      · simp only [List.length_append, addG_len, List.length_zip, addW_len]; omega
      · simp
    have hxo : (addOf c a b carry).2.2 = true → (goodC c ∧ a.length ≤ 16 ∧ allIn a 0 (wiresOf c - 1) ∧ allIn b 0 (wiresOf c - 1) ∧ 0 ≤ carry ∧ carry ≤ wiresOf c - 1 ∧ goodC (addOf c a b carry).1 ∧ (addOf c a b carry).1 = (c.1, c.2.1 ++ addG (wiresOf c) (a.zip b) carry, c.2.2) ∧ (addOf c a b carry).2.1 = addW (wiresOf c) a.length) := by
      unfold addOf
      simp only []
      split
      · rename_i h
        exact fun _ => ⟨h.1.1.1, h.1.1.2.2.1, h.1.1.2.2.2.1, h.1.1.2.2.2.2, h.1.2.1, h.1.2.2, h.2, rfl, rfl⟩
      · intro h; cases h
    simp only [go_sem]
    refine c_addI (c := c) hcO (by omega) (by omega) ?_
    simp only [go_sem, eAdd]
    refine c_addS (c := c) hcO (by omega) (by omega) ?_
    simp only [go_sem, eAdd]
    generalize addOf c a b carry = x at hxb hxo ⊢
    obtain ⟨⟨xi, xg, xo⟩, xs, ok⟩ := x
    simp only at hxb hxo
    simp only [go_sem]
    refine c_sameCircuit (x := (xi, xg, xo)) (y := (xi, xg, xo)) ⟨by simp only; omega, by simp only; omega⟩ ⟨by simp only; omega, by simp only; omega⟩ ?_
    simp only [go_sem]
    refine c_sameInts (a := xs) (b := xs) (by omega) (by omega) ?_
    simp only [go_sem]
    refine c_goodI (c := c) hcO (.cl rfl) ?_
    simp only [go_sem]
    refine c_goodS (c := c) hcO ?_
    simp only [go_sem]
    cases ok
    · simp only [go_sem]
    · obtain ⟨hg, ha2, hA, hB, hC1, hC2, hG, hX, hS⟩ := hxo rfl
      have hbd := good_bounds hg
      simp only [go_sem]
      refine ALoop.thaw 903 4 1 (t := 15) (by simp only [go_sem]) ?_
      refine ALoop.intro (pl := pl3) (fun k env H => ∃ (i bv v5 v9 : Nat) (l : List Bool), env 1 = eB more ∧ env 5 = .ptr 5 v5 0 ∧ env 6 = eI a ∧ env 7 = eI b ∧ env 8 = I64 carry ∧ env 9 = .ptr 9 v9 0 ∧ env 10 = eI xs ∧ env 15 = .ref 903 bv 0 l.length ∧ env 16 = I64 i ∧
        H 5 = .cells v5 27 1 [I64 c.1, eGs c.2.1, eI c.2.2] ∧ H 9 = .cells v9 27 1 [I64 xi, eGs xg, eI xo] ∧ H 903 = .cells bv 4 1 (l.map .bool) ∧ H 904 = .gone 0 ∧ H 905 = .gone 0 ∧ (i : Int) + k = c.1 ∧ l.length = i) c.1.toNat (by kernel_rfl) ?_ ?_
      · simp only [go_sem]
        exact ⟨0, _, _, _, [], rfl, rfl, rfl, rfl, rfl, rfl, rfl, rfl, rfl, by omega, rfl⟩
      · rintro k env H ⟨i, bv, v5, v9, l, e1, e5, e6, e7, e8, e9, e10, e15, e16, b5, b9, bl, b904, b905, hk, hl⟩
        by_cases hz : (i : Int) < c.1
        · have hw1 : IntKind.wrap .i64 ((i : Int) + 1) = i + 1 := i64_in _ (by omega)
          have hw2 : IntKind.wrap .u64 (i : Int) = i := u64_in _ (by omega)
          have h0 : (0 : Int) ≤ i := by omega
          simp only [go_sem, pl3, e1, e5, e6, e7, e8, e9, e10, e15, e16, b5, b9, bl, hz]
          refine c_numberOf (code := more) hmore (by omega) fun n hn1 hn2 => ?_
          simp only [go_sem, pl3, e1, e5, e6, e7, e8, e9, e10, e15, e16, b5, b9, bl, hz, hw1, hw2, h0]
          exact ⟨by omega, k - 1, by omega, i + 1, bv + 1, _, _, l ++ [decide (abits .and .i64 (n.fdiv (2 ^ min i 64)) 1 = 1)], rfl, rfl, by simp, rfl, rfl, rfl, by simp, b904, b905, by omega, by simp [hl]⟩
        · simp only [go_sem, pl3, e1, e5, e6, e7, e8, e9, e10, e15, e16, b5, b9, bl, hz]
          have hxi : xi = c.1 := congrArg (·.1) hX
          have hxg : xg = c.2.1 ++ addG (wiresOf c) (a.zip b) carry := congrArg (·.2.1) hX
          have hll : (l.length : Int) = xi := by omega
          have hG2 : CircOk (xi, xg, xo) := ⟨by simp only; omega, by simp only; omega⟩
          have hal : (runW xg l).length ≤ 1000 := by rw [runW_len]; omega
          refine o_allI (c := (xi, xg, xo)) (ins := l) 904 b904 hG2 hG hll (.frz _ _ (frzBn (T := 4) rfl (by simp) bl)) fun v1 => ?_
          simp only [go_sem, pl3, e1, e5, e6, e7, e8, e9, e10, e15, e16, b5, b9, bl]
          refine o_allS (c := (xi, xg, xo)) (ins := l) 905 (v0 := 0) (by simp only [go_sem]; exact b905) hG2 hG hll (.frz _ _ (frzBn (T := 4) rfl (by simp) (by simp only [go_sem]; exact bl))) fun v2 => ?_
          simp only [go_sem, pl3, e1, e5, e6, e7, e8, e9, e10, e15, e16, b5, b9, bl]
          refine v_carried (a := runW xg l) (ws := a) (.frz _ _ (frzBn (T := 4) rfl rfl (by simp only [go_sem]))) (.cl rfl) (by omega) (by omega) ?_
          simp only [go_sem, pl3, e1, e5, e6, e7, e8, e9, e10, e15, e16, b5, b9, bl]
          refine v_carried (a := runW xg l) (ws := b) (.frz _ _ (frzBn (T := 4) rfl rfl (by simp only [go_sem]))) (.cl rfl) (by omega) (by omega) ?_
          simp only [go_sem, pl3, e1, e5, e6, e7, e8, e9, e10, e15, e16, b5, b9, bl]
          refine v_carried (a := runW xg l) (ws := [carry]) (.frz _ _ (frzBn (T := 4) rfl rfl (by simp only [go_sem]))) (.frz _ _ (frzIn (T := 3) rfl rfl (by simp only [go_sem]))) (by omega) (by simp) ?_
          simp only [go_sem, pl3, e1, e5, e6, e7, e8, e9, e10, e15, e16, b5, b9, bl]
          refine v_sameBools (a := runW xg l) (b := runW xg l) (.frz _ _ (frzBn (T := 4) rfl rfl (by simp only [go_sem]))) (.frz _ _ (frzBn (T := 4) rfl rfl (by simp only [go_sem]))) (by omega) (by omega) ?_
          simp only [go_sem, pl3, e1, e5, e6, e7, e8, e9, e10, e15, e16, b5, b9, bl]
          have hsh : IntKind.i64.wrap (1 * 2 ^ min (IntKind.u64.wrap (a.length : Int)).toNat 64) = ((2 ^ a.length : Nat) : Int) := by
            have hp : 2 ^ a.length ≤ 2 ^ 17 := Nat.pow_le_pow_right (by omega) (by omega)
            have h17 : (2 : Nat) ^ 17 = 131072 := by decide
            rw [u64_in _ (by omega), Int.toNat_natCast, Nat.min_eq_left (by omega), Int.one_mul]
            have : ((2 : Int) ^ a.length) = ((2 ^ a.length : Nat) : Int) := by simp
            rw [this]
            exact i64_nat _ (Nat.le_trans hp (by rw [h17]; omega))
          have hpos : 0 < 2 ^ a.length := Nat.pow_pos (by omega)
          have hne : ¬ ((2 ^ a.length : Nat) : Int) = 0 := Int.natCast_ne_zero.2 (Nat.pos_iff_ne_zero.1 hpos)
          refine ⟨by rw [hsh]; exact hne, ?_⟩
          refine v_carried (a := runW xg l) (ws := xs) (.frz _ _ (frzBn (T := 4) rfl rfl (by simp only [go_sem]))) (.cl rfl) (by omega) (by omega) ?_
          have hacc : (((runW c.2.1 l).length : Nat) : Int) = wiresOf c := by rw [runW_len, wiresOf]; omega
          have hrun : runW xg l = runW (addG (runW c.2.1 l).length (a.zip b) carry) (runW c.2.1 l) := by rw [hxg, runW_app, hacc]
          have hinA : ∀ w ∈ a, 0 ≤ w ∧ w < ((runW c.2.1 l).length : Int) := fun w hw => by have := hA w hw; omega
          have hinB : ∀ w ∈ b, 0 ≤ w ∧ w < ((runW c.2.1 l).length : Int) := fun w hw => by have := hB w hw; omega
          have hadd := adder (a.zip b) (runW c.2.1 l) carry (fun p hp => by
            have h1 := (List.of_mem_zip (a := p.1) (b := p.2) hp)
            exact ⟨hinA _ h1.1, hinB _ h1.2⟩) (by omega)
          rw [List.length_zip, ← hab, Nat.min_self, List.map_fst_zip (by omega), List.map_snd_zip (by omega), ← hrun, hacc, ← hS] at hadd
          have hvp : ∀ ws : List Int, (∀ w ∈ ws, 0 ≤ w ∧ w < ((runW c.2.1 l).length : Int)) → val (runW xg l) ws = val (runW c.2.1 l) ws := fun ws h => by
            rw [hrun]
            clear hadd
            induction ws with
            | nil => rfl
            | cons w ws ih =>
              simp only [val]
              rw [bit_pre (h w (by simp)).1 (h w (by simp)).2, ih fun x hx => h x (by simp [hx])]
          have cv : ∀ ws : List Int, ws.length ≤ 60 → carr (runW xg l) 0 ws 0 = (val (runW xg l) ws : Int) := fun ws h => by
            have := carr_val (runW xg l) ws 0 0 (by simp) (by omega)
            simpa using this
          have hvA := val_lt (runW c.2.1 l) a
          have hvB := val_lt (runW c.2.1 l) b
          have hvC := bit_le (runW c.2.1 l) carry
          have hp17 : 2 ^ a.length ≤ 2 ^ 17 := Nat.pow_le_pow_right (by omega) (by omega)
          have h17 : (2 : Nat) ^ 17 = 131072 := by decide
          rw [← hab] at hvB
          rw [cv a (by omega), cv b (by omega), cv [carry] (by simp), cv xs (by omega), hvp a hinA, hvp b hinB, hvp [carry] (by simp; omega), hadd]
          have hone : val (runW c.2.1 l) [carry] = bit (runW c.2.1 l) carry := by simp [val]
          have hw3 : IntKind.i64.wrap (IntKind.i64.wrap (((val (runW c.2.1 l) a : Nat) : Int) + (val (runW c.2.1 l) b : Nat)) + (val (runW c.2.1 l) [carry] : Nat)) = ((val (runW c.2.1 l) a + val (runW c.2.1 l) b + bit (runW c.2.1 l) carry : Nat) : Int) := by
            rw [i64_in (((val (runW c.2.1 l) a : Nat) : Int) + (val (runW c.2.1 l) b : Nat)) (by omega), hone, i64_in _ (by omega)]
            omega
          rw [hw3, hsh]
          have hmod : (((val (runW c.2.1 l) a + val (runW c.2.1 l) b + bit (runW c.2.1 l) carry : Nat) : Int)).tmod ((2 ^ a.length : Nat) : Int) = (((val (runW c.2.1 l) a + val (runW c.2.1 l) b + bit (runW c.2.1 l) carry) % 2 ^ a.length : Nat) : Int) := by
            rw [Int.tmod_eq_emod_of_nonneg (by omega)]; omega
          simp only [go_sem, pl3, e1, e5, e6, e7, e8, e9, e10, e15, e16, b5, b9, bl, hmod]
          exact ⟨congrArg (AV.int .i64) hsh, hne⟩
end Go.Proofs.Ytjkcoldpecdajaa
