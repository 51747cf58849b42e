/- Texts of ours, joined: T12 T13 T14 T15 T16 T17 T18 T19. -/
import Derived.Test.YtjkcoldpecdajaaW1
import Derived.Test.YtjkcoldpecdajaaAbs3
set_option linter.unusedVariables false
set_option linter.unusedSimpArgs false
namespace Go.Proofs.Ytjkcoldpecdajaa
open Go.Abs Go.IntWalk
set_option maxRecDepth 100000
theorem c_below1 {x n : Int} {id v T : Nat} {H : Heap} {K : AV → Heap → Prop} (hH : H id = .cells v T 1 [I64 n]) (hK : K (.bool (decide (x < 0 ∨ n ≤ x))) H) : ACall Try.prog 146 [I64 x, .ptr id v 0] H K := by
  refine ACall.with1 (xs := [I64 x]) (R := fun r H' => r = .bool (decide (x < 0 ∨ n ≤ x)) ∧ H' 1000000 = .cells v T 1 [I64 n]) (.ptr 1000000 v 0) rfl hH rfl rfl ?_ ?_
  · refine call146 (by simp) ?_
    simp only [Try.results146, Try.ntmps146, Try.f146, Option.getD_some, pl146]
    by_cases h : x < 0
    · simp only [go_sem, h, true_or]
    · simp only [go_sem, h, false_or]
  · rintro r H' ⟨rfl, h⟩
    exact ⟨h, _, .cl rfl, rfl, hK⟩
theorem c_index {l : List Int} {n : Int} {id v T : Nat} {H : Heap} {K : AV → Heap → Prop} (hl : l.length ≤ 1000000000) (hH : H id = .cells v T 1 [I64 n]) (hK : ∀ r, (0 ≤ r ↔ ∃ x ∈ l, x < 0 ∨ n ≤ x) → K (I64 r) H) : ACall Try.prog 198 [eI l, .fn 146 [.ptr id v 0]] H K := by
  refine ACall.with1 (xs := [eI l]) (R := fun r H' => H' 1000000 = .cells v T 1 [I64 n] ∧ ∃ q, r = I64 q ∧ (0 ≤ q ↔ ∃ x ∈ l, x < 0 ∨ n ≤ x)) (.fn 146 [.ptr 1000000 v 0]) rfl hH rfl rfl ?_ ?_
  · refine call198 (by simp) ?_
    simp only [Try.results198, Try.ntmps198, Try.f198, Option.getD_some, pl198]
    simp only [go_sem, eI]
    refine ALoop.intro (pl := pl198) (fun k env H => ∃ i : Nat, env 0 = eI l ∧ env 1 = .fn 146 [.ptr 1000000 v 0] ∧ env 7 = I64 l.length ∧ env 8 = I64 i ∧ H 1000000 = .cells v T 1 [I64 n] ∧ i + k = l.length ∧ ∀ x ∈ l.take i, ¬ (x < 0 ∨ n ≤ x)) l.length (by kernel_rfl) ?_ ?_
    · simp only [go_sem, eI]
      exact ⟨0, by simp⟩
    · rintro k env H ⟨i, e0, e1, e2, e3, b1, hk, ht⟩
      by_cases hz : (i : Int) < l.length
      · obtain ⟨x, hx⟩ : ∃ x, l[i]? = some x := ⟨_, List.getElem?_eq_getElem (by omega)⟩
        have hw : IntKind.wrap .i64 ((i : Int) + 1) = i + 1 := i64_in _ (by omega)
        have h0 : (0 : Int) ≤ i := by omega
        simp only [go_sem, e0, e1, e2, e3, eI, hz, hx, h0]
        refine c_below1 b1 ?_
        by_cases hp : x < 0 ∨ n ≤ x
        · simp only [go_sem, hp]
          exact ⟨b1, _, rfl, by simp only [h0, true_iff]; exact ⟨x, List.mem_of_getElem? hx, hp⟩⟩
        · simp only [go_sem, e0, e1, e2, e3, eI, hp, hw]
          refine ⟨k - 1, by omega, i + 1, by simp, b1, by omega, ?_⟩
          intro y hy
          rw [List.take_add_one, hx] at hy
          rcases List.mem_append.1 hy with hy | hy
          · exact ht y hy
          · simp at hy; rw [hy]; exact hp
      · simp only [go_sem, e2, e3, hz]
        rw [List.take_of_length_le (by omega)] at ht
        exact ⟨b1, _, rfl, ⟨fun h => absurd h (by omega), fun ⟨x, h1, h2⟩ => absurd h2 (ht x h1)⟩⟩
  · rintro r H' ⟨h, q, rfl, hq⟩
    exact ⟨h, _, .cl rfl, rfl, hK q hq⟩
end Go.Proofs.Ytjkcoldpecdajaa

set_option linter.unusedVariables false
set_option linter.unusedSimpArgs false
namespace Go.Proofs.Ytjkcoldpecdajaa
open Go.Abs Go.IntWalk
set_option maxRecDepth 100000
theorem c_contains {l : List Int} {n : Int} {id v T : Nat} {H : Heap} {K : AV → Heap → Prop} (hl : l.length ≤ 1000000000) (hH : H id = .cells v T 1 [I64 n]) (hK : K (.bool (decide (¬ allIn l 0 (n - 1)))) H) : ACall Try.prog 145 [eI l, .fn 146 [.ptr id v 0]] H K := by
  refine ACall.with1 (xs := [eI l]) (R := fun r H' => H' 1000000 = .cells v T 1 [I64 n] ∧ r = .bool (decide (¬ allIn l 0 (n - 1)))) (.fn 146 [.ptr 1000000 v 0]) rfl hH rfl rfl ?_ ?_
  · refine call145 (by simp) ?_
    simp only [Try.results145, Try.ntmps145, Try.f145, Option.getD_some, pl145]
    simp only [go_sem, eI]
    refine c_index hl rfl fun r hr => ?_
    simp only [go_sem, HOne_at]
    refine bE (hr.trans ?_)
    unfold allIn
    constructor
    · rintro ⟨x, h1, h2⟩ h
      have := h x h1
      omega
    · intro h
      refine Classical.byContradiction fun hn => h fun x hx => ?_
      have h2 : ¬ (x < 0 ∨ n ≤ x) := fun h2 => hn ⟨x, hx, h2⟩
      omega
  · rintro r H' ⟨h, rfl⟩
    exact ⟨h, _, .cl rfl, rfl, hK⟩
theorem c_areBelow {l : List Int} {n : Int} {H : Heap} {K : AV → Heap → Prop} {a : AV} (hl : l.length ≤ 1000000000) (hv : View H (fun _ => false) id (fun _ => true) a (eI l)) (hK : K (.bool (decide (allIn l 0 (n - 1)))) H) : ACall Try.prog 78 [a, I64 n] H K := by
  refine ACall.peek (args' := [eI l, I64 n]) (R := fun r _ => r = .bool (decide (allIn l 0 (n - 1)))) ?_ (.cons _ _ _ _ hv (.cons _ _ _ _ (.cl rfl) .nil)) ?_
  · refine call78 (by simp) ?_
    simp only [Try.results78, Try.ntmps78, Try.f78, Option.getD_some, pl78]
    simp only [go_sem, eI]
    refine c_contains (l := l) hl (by simp only [go_sem]; rfl) ?_
    simp only [go_sem]
    exact congrArg AV.bool (by simp)
  · rintro r H' rfl
    exact ⟨rfl, hK⟩
end Go.Proofs.Ytjkcoldpecdajaa

set_option linter.unusedVariables false
set_option linter.unusedSimpArgs false
namespace Go.Proofs.Ytjkcoldpecdajaa
open Go.Abs Go.IntWalk
set_option maxRecDepth 100000
theorem c_wiresI {a : AV} {c : Circ} {H : Heap} {K : AV → Heap → Prop} (hv : View H (fun _ => false) id (fun _ => true) a (eC c)) (h1 : -1000 ≤ c.1) (h2 : c.1 + c.2.1.length ≤ 1000000000000) (hK : K (I64 (c.1 + c.2.1.length)) H) : ACall Try.prog 79 [a] H K := by
  refine ACall.peek (args' := [eC c]) (R := fun r _ => r = I64 (c.1 + c.2.1.length)) ?_ (.cons _ _ _ _ hv .nil) ?_
  · refine call79 (by simp) ?_
    simp only [Try.results79, Try.ntmps79, Try.f79, Option.getD_some, pl79]
    have hw : IntKind.wrap .i64 (c.1 + c.2.1.length) = c.1 + c.2.1.length := i64_in _ (by omega)
    simp only [go_sem, eC, eGs, eI, hw]
  · rintro r H' rfl
    exact ⟨rfl, hK⟩
/-- The wires that a gate reads. -/
def usesOf (g : Gate) : List Int := if g.1 = 1 then [] else if g.1 = 2 then [g.2.1] else [g.2.1, g.2.2]
theorem c_uses {g : Gate} {H : Heap} {K : AV → Heap → Prop} (hK : ∀ a, (∀ H : Heap, View H (fun _ => false) id (fun _ => true) a (eI (usesOf g))) → K a H) : ACall Try.prog 152 [eG g] H K := by
  obtain ⟨k, x, y⟩ := g
  refine ACall.pure (R := fun r H' => (r = .nil ∧ usesOf (k, x, y) = []) ∨ Res (fun _ => false) anyAV H' r (eI (usesOf (k, x, y)))) rfl ?_ ?_
  · refine call152 (by simp) ?_
    simp only [Try.results152, Try.ntmps152, Try.f152, Option.getD_some, pl152]
    by_cases k1 : k = 1
    · subst k1
      simp only [go_sem, eG, cG]
      exact .inl rfl
    · by_cases k2 : k = 2
      · subst k2
        simp only [go_sem, eG, cG]
        exact .inr (resI (l := [x]) (T := 3) (ver := (H0 11).ver + 1) rfl (by simp only [go_sem]))
      · simp only [go_sem, eG, cG, k1, k2]
        have e : usesOf (k, x, y) = [x, y] := by simp [usesOf, k1, k2]
        rw [e]
        exact .inr (resI (l := [x, y]) (T := 3) (ver := (H0 16).ver + 1) rfl (by simp only [go_sem]))
  · rintro r H' h
    rcases h with ⟨rfl, h⟩ | h
    · exact ⟨.nil, .cl rfl, rfl, hK _ fun H => by rw [h]; exact .nil 1⟩
    · exact ⟨_, h, rfl, hK _ fun H => .cl rfl⟩
end Go.Proofs.Ytjkcoldpecdajaa

set_option linter.unusedVariables false
set_option linter.unusedSimpArgs false
namespace Go.Proofs.Ytjkcoldpecdajaa
open Go.Abs Go.IntWalk
set_option maxRecDepth 100000
theorem c_isGate {g : Gate} {own : Int} {H : Heap} {K : AV → Heap → Prop} (hK : K (.bool (decide (gateOk g own))) H) : ACall Try.prog 86 [eG g, I64 own] H K := by
  obtain ⟨k, x, y⟩ := g
  refine ACall.pure (R := fun r _ => r = .bool (decide (gateOk (k, x, y) own))) rfl ?_ ?_
  · refine call86 (by simp) ?_
    simp only [Try.results86, Try.ntmps86, Try.f86, Option.getD_some, pl86]
    by_cases h1 : k < 1
    · simp only [go_sem, eG, cG, h1]
      exact bF (by simp only [gateOk]; omega)
    · by_cases h2 : 5 < k
      · simp only [go_sem, eG, cG, h1, h2]
        exact bF (by simp only [gateOk]; omega)
      · by_cases h3 : k = 1
        · subst h3
          by_cases h4 : x < 0
          · simp only [go_sem, eG, cG, h1, h2, h4]
            exact bF (by simp only [gateOk]; omega)
          · by_cases h5 : 1 < x
            · simp only [go_sem, eG, cG, h1, h2, h4, h5]
              exact bF (by simp only [gateOk]; omega)
            · by_cases h6 : y = 0
              · simp only [go_sem, eG, cG, h1, h2, h4, h5, h6]
                refine c_uses (g := (1, x, 0)) fun a ha => ?_
                simp only [go_sem]
                refine c_areBelow (l := []) (by simp) (ha _) ?_
                simp only [go_sem]
                exact bE (by simp only [gateOk, allIn]; simp; omega)
              · simp only [go_sem, eG, cG, h1, h2, h4, h5, h6]
                exact bF (by simp only [gateOk]; omega)
        · by_cases h4 : k ≤ 2
          · by_cases h6 : y = 0
            · have hk : k = 2 := by omega
              subst hk
              simp only [go_sem, eG, cG, h1, h2, h3, h4, h6]
              refine c_uses (g := (2, x, 0)) fun a ha => ?_
              simp only [go_sem]
              refine c_areBelow (l := [x]) (by simp) (ha _) ?_
              simp only [go_sem]
              exact bE (by simp only [gateOk, allIn]; simp [h6])
            · simp only [go_sem, eG, cG, h1, h2, h3, h4, h6]
              exact bF (by simp only [gateOk]; omega)
          · simp only [go_sem, eG, cG, h1, h2, h3, h4]
            refine c_uses (g := (k, x, y)) fun a ha => ?_
            simp only [go_sem]
            have e : usesOf (k, x, y) = [x, y] := by simp only [usesOf]; rw [if_neg (by omega), if_neg (by omega)]
            rw [e] at ha
            refine c_areBelow (l := [x, y]) (by simp) (ha _) ?_
            simp only [go_sem]
            exact bE (by simp only [gateOk, allIn]; simp; omega)
  · rintro r H' rfl
    exact ⟨_, .cl rfl, rfl, hK⟩
theorem c_goodI {a : AV} {c : Circ} {H : Heap} {K : AV → Heap → Prop} (hc : CircOk c) (hv : View H (fun _ => false) id (fun _ => true) a (eC c)) (hK : K (.bool (decide (goodC c))) H) : ACall Try.prog 18 [a] H K := by
  obtain ⟨ci, gs, os⟩ := c
  obtain ⟨hc1, hc2⟩ := hc
  simp only at hc1 hc2
  refine ACall.peek (args' := [eC (ci, gs, os)]) (R := fun r _ => r = .bool (decide (goodC (ci, gs, os)))) ?_ (.cons _ _ _ _ hv .nil) ?_
  · refine call18 (by simp) ?_
    simp only [Try.results18, Try.ntmps18, Try.f18, Option.getD_some, pl18]
    by_cases h1 : ci < 0
    · simp only [go_sem, eC, eGs, eI, h1]
      exact bF fun h => by have := h.1; simp only at this; omega
    · by_cases h1' : 16 < ci
      · simp only [go_sem, eC, eGs, eI, h1, h1']
        exact bF fun h => by have := h.1; simp only at this; omega
      · by_cases h2 : 300 < (gs.length : Int)
        · simp only [go_sem, eC, eGs, eI, h1, h1', h2]
          exact bF fun h => by have := h.2.1; simp only at this; omega
        · by_cases h3 : 16 < (os.length : Int)
          · simp only [go_sem, eC, eGs, eI, h1, h1', h2, h3]
            exact bF fun h => by have := h.2.2.1; simp only at this; omega
          · simp only [go_sem, eC, eGs, eI, h1, h1', h2, h3]
            refine ALoop.intro (pl := pl18) (fun k env H => ∃ (i v1 : Nat), env 1 = .ptr 1 v1 0 ∧ env 26 = eGs gs ∧ env 27 = I64 gs.length ∧ env 28 = I64 i ∧ H 1 = .cells v1 27 1 [I64 ci, eGs gs, eI os] ∧ i + k = gs.length ∧ (gatesOk (ci + i) (gs.drop i) ↔ gatesOk ci gs)) gs.length (by kernel_rfl) ?_ ?_
            · simp only [go_sem, eGs, eI]
              exact ⟨0, _, rfl, by simp, rfl, by omega, by simp⟩
            · rintro k env H ⟨i, v1, e1, e2, e3, e4, b1, hk, ht⟩
              by_cases hz : (i : Int) < gs.length
              · obtain ⟨p, hp⟩ : ∃ p, gs[i]? = some p := ⟨_, List.getElem?_eq_getElem (by omega)⟩
                have hw : IntKind.wrap .i64 ((i : Int) + 1) = i + 1 := i64_in _ (by omega)
                have hw2 : IntKind.wrap .i64 (ci + (i : Int)) = ci + i := i64_in _ (by omega)
                have h0 : (0 : Int) ≤ i := by omega
                rw [drop_step hp, gatesOk] at ht
                simp only [go_sem, pl18, e1, e2, e3, e4, b1, eGs, eI, hz, decide_true, hp, hw2, h0, eG, cG]
                refine c_isGate (g := p) ?_
                by_cases hg : gateOk p (ci + i)
                · simp only [go_sem, e1, e2, e3, e4, b1, eGs, eI, hg, hw, decide_true]
                  refine ⟨k - 1, by omega, i + 1, v1, rfl, by simp, rfl, by omega, ?_⟩
                  rw [← ht]
                  simp only [hg, true_and]
                  rw [show ci + ((i + 1 : Nat) : Int) = ci + i + 1 by omega]
                · simp only [go_sem, hg, decide_false]
                  exact bF fun h => hg (ht.2 h.2.2.2.1).1
              · simp only [go_sem, pl18, e1, e2, e3, e4, b1, hz, decide_false]
                refine c_wiresI (c := (ci, gs, os)) (.cl rfl) (by simp only; omega) (by simp only; omega) ?_
                simp only [go_sem, e1, b1, eI]
                refine c_areBelow (l := os) (by omega) (.cl rfl) ?_
                simp only [go_sem]
                rw [List.drop_of_length_le (by omega), gatesOk] at ht
                have hg := ht.1 trivial
                refine bE ⟨fun h => ⟨by simp only; omega, by simp only; omega, by simp only; omega, hg, h⟩, fun h => h.2.2.2.2⟩
  · rintro r H' rfl
    exact ⟨rfl, hK⟩
end Go.Proofs.Ytjkcoldpecdajaa

set_option linter.unusedVariables false
set_option linter.unusedSimpArgs false
namespace Go.Proofs.Ytjkcoldpecdajaa
open Go.Abs Go.IntWalk
set_option maxRecDepth 100000
theorem cl_cG (gs : List Gate) : closedL (gs.flatMap cG) = true := cl_flat (fun _ => rfl) gs
theorem sc_cG (gs : List Gate) : (gs.flatMap cG).all AV.scalar = true := sc_flat (fun _ => rfl) gs
theorem sc_I (l : List Int) : (l.map I64).all AV.scalar = true := sc_map (fun _ => rfl) l
theorem cl_I (l : List Int) : closedL (l.map I64) = true := cll_map fun _ => rfl
/-- The clone of a list of gates, ours. -/
theorem c_cloneG {gs : List Gate} {H : Heap} {K : AV → Heap → Prop} (d : Nat) {v0 : Nat} (hd : H d = .gone v0) (hl : gs.length ≤ 1000000000) (hK : ∀ ver, K (.ref d ver 0 gs.length) (upd H d (.cells ver 119 3 (gs.flatMap cG)))) : ACall Try.prog 147 [eGs gs] H K := by
  refine ACall.own1 d hd rfl (cl_cG gs) ?_ hK
  refine ACall.own (R := fun r H' => (∃ v, r = .ref 5 v 0 gs.length ∧ H' 5 = .cells v 119 3 (gs.flatMap cG)) ∨ (gs = [] ∧ r = .nil)) 1000000 (by omega) ?_ ?_
  · refine call147 (by simp) ?_
    simp only [Try.results147, Try.ntmps147, Try.f147, Option.getD_some, pl147]
    simp only [go_sem, eGs]
    refine ⟨⟨_, rfl⟩, fun b hb => ?_⟩
    cases b
    · simp only [go_sem, flat_eG, eGs]
      exact ⟨by omega, sc_cG gs, .inl ⟨_, rfl, rfl⟩⟩
    · have hb := hb rfl
      simp only [List.map_eq_nil_iff] at hb
      subst hb
      simp only [go_sem, or_true]
  · rintro r H' (⟨v, rfl, h⟩ | ⟨rfl, rfl⟩)
    · exact .inl ⟨5, v, 119, 3, _, _, by omega, h, .ref 0 _, _, rfl, by rw [upd_same]⟩
    · exact .inr (.inl ⟨119, 3, _, .nil, _, rfl, by rw [upd_same]; rfl⟩)
theorem c_cloneI {l : List Int} {H : Heap} {K : AV → Heap → Prop} (hl : l.length ≤ 1000000000) (hK : K (eI l) H) : ACall Try.prog 148 [eI l] H K := by
  refine ACall.pure (R := fun r H' => (∃ v, r = .ref 5 v 0 l.length ∧ H' 5 = .cells v 3 1 (l.map I64)) ∨ (l = [] ∧ r = .nil)) rfl ?_ ?_
  · refine call148 (by simp) ?_
    simp only [Try.results148, Try.ntmps148, Try.f148, Option.getD_some, pl148]
    simp only [go_sem, eI]
    refine ⟨⟨_, rfl⟩, fun b hb => ?_⟩
    cases b
    · simp only [go_sem, eI, flat_map1 (f := I64) (fun _ => rfl) l]
      exact ⟨by omega, sc_I l, .inl ⟨_, rfl, rfl⟩⟩
    · have hb := hb rfl
      simp only [List.map_eq_nil_iff] at hb
      subst hb
      simp only [go_sem, or_true]
  · rintro r H' (⟨v, rfl, h⟩ | ⟨rfl, rfl⟩)
    · exact ⟨_, resI rfl h, rfl, hK⟩
    · exact ⟨eI [], .frz _ _ (.nil 1), rfl, hK⟩
theorem frzGn {H : Heap} {β : Nat → Bool} {id ver T n : Nat} {gs : List Gate} (hn : n = gs.length) (hβ : β id = true) (h : H id = .cells ver T 3 (gs.flatMap cG)) : FRes H β anyAV (.ref id ver 0 n) (eGs gs) := by
  subst hn; exact frzG hβ h
theorem c_put {id gid v gv : Nat} {ins : Int} {gs : List Gate} {os : List Int} {kind x y : Int} {H : Heap} {K : AV → Heap → Prop} (hne : id ≠ gid) (hi : -1000 ≤ ins) (hi2 : ins ≤ 1000) (hl : gs.length ≤ 1000000) (h0 : H id = .cells v 27 1 [I64 ins, .ref gid gv 0 gs.length, eI os]) (h1 : H gid = .cells gv 119 3 (gs.flatMap cG))
    (hK : K (I64 (ins + gs.length)) (upd (upd H id (.cells v 27 1 [I64 ins, .ref gid (gv + 1) 0 (gs ++ [(kind, x, y)]).length, eI os])) gid (.cells (gv + 1) 119 3 ((gs ++ [(kind, x, y)]).flatMap cG)))) : ACall Try.prog 149 [.ptr id v 0, I64 kind, I64 x, I64 y] H K := by
  refine ACall.hand [id, gid] [.cells v 27 1 [I64 ins, .ref 1000001 gv 0 gs.length, eI os], .cells gv 119 3 (gs.flatMap cG)] (args' := [.ptr 1000000 v 0, I64 kind, I64 x, I64 y]) (R := fun r H' => r = I64 (ins + gs.length) ∧ H' 1000000 = .cells v 27 1 [I64 ins, .ref 1000001 (gv + 1) 0 (gs ++ [(kind, x, y)]).length, eI os] ∧ H' 1000001 = .cells (gv + 1) 119 3 ((gs ++ [(kind, x, y)]).flatMap cG)) (by simp [hne]) ?_ ?_ ?_ ?_ ?_ ?_
  · exact ⟨h0, by rw [h1, Blk.ren, renL_closed _ _ (cl_cG gs)], trivial⟩
  · simp only [List.all_cons, List.all_nil, inB_cl (cl_cG gs)]; rfl
  · rfl
  · rfl
  · refine call149 (by simp) ?_
    simp only [Try.results149, Try.ntmps149, Try.f149, Option.getD_some, pl149]
    simp only [go_sem, eI]
    refine ⟨by rw [len_flat cG_len]; omega, by omega, ?_⟩
    rw [take_flat cG_len]
    have e : gs.flatMap cG ++ [AV.int .i64 kind, AV.int .i64 x, AV.int .i64 y] = (gs ++ [(kind, x, y)]).flatMap cG := by simp [cG]
    rw [e]
    refine c_wiresI (c := (ins, gs ++ [(kind, x, y)], os)) (.agg3 (.cl rfl) (.frz _ _ ?_) (.cl rfl)) (by simp only; omega) (by simp only [List.length_append, List.length_cons, List.length_nil]; omega) ?_
    · exact frzGn (T := 119) (by simp) rfl (by simp only [go_sem])
    · have hw : IntKind.wrap .i64 (ins + ((gs.length + 1 : Nat) : Int) - 1) = ins + gs.length := (i64_in _ (by omega)).trans (by omega)
      simp only [go_sem, hw, eI]
  · rintro r' H' ⟨rfl, h2, h3⟩
    refine ⟨_, [_, _], ⟨h2, h3, trivial⟩, rfl, ?_, .cl rfl, ?_⟩
    · simp only [List.all_cons, List.all_nil, inB_cl (cl_cG _)]; rfl
    · simp only [lays, Blk.ren, renL_closed _ _ (cl_cG _)]
      exact hK
end Go.Proofs.Ytjkcoldpecdajaa

set_option linter.unusedVariables false
set_option linter.unusedSimpArgs false
namespace Go.Proofs.Ytjkcoldpecdajaa
open Go.Abs Go.IntWalk
set_option maxRecDepth 100000
/-- The gates of one place of a sum, the first of which has wire 'n'. -/
def add1 (n x y carry : Int) : List Gate := [(5, x, y), (5, n, carry), (3, x, y), (3, n, carry), (4, n + 2, n + 3)]
/-- The gates of a sum, and its wires. -/
def addG : Int → List (Int × Int) → Int → List Gate
  | _, [], _ => []
  | n, (x, y) :: l, carry => add1 n x y carry ++ addG (n + 5) l (n + 4)
def addW : Int → Nat → List Int
  | _, 0 => []
  | n, k + 1 => (n + 1) :: addW (n + 5) k
attribute [local go_sem] take_map
@[local go_sem] theorem take_cG (gs : List Gate) : List.take (gs.length * 3) (gs.flatMap cG) = gs.flatMap cG := take_flat cG_len gs
@[local go_sem] theorem len_cG (gs : List Gate) : (gs.flatMap cG).length = gs.length * 3 := len_flat cG_len gs
theorem addG_len : ∀ (l : List (Int × Int)) (n c : Int), (addG n l c).length = 5 * l.length
  | [], _, _ => rfl
  | (x, y) :: l, n, c => by simp only [addG, List.length_append, addG_len l, add1, List.length_cons, List.length_nil]; omega
theorem addW_len : ∀ (k : Nat) (n : Int), (addW n k).length = k
  | 0, _ => rfl
  | k + 1, n => by simp only [addW, List.length_cons, addW_len k]
/-- 'putAdd', inside: the circuit's block is 1000000, its gates are 1000001. -/
theorem k_putAdd {v gv : Nat} {ins carry : Int} {gs : List Gate} {os a b : List Int} {v0 : Nat} (hab : a.length = b.length) (ha : a.length ≤ 1000) (hi : -100 ≤ ins) (hi2 : ins ≤ 100) (hl : gs.length ≤ 10000) :
    ACall Try.prog 81 [.ptr 1000000 v 0, eI a, eI b, I64 carry] (hp [.cells v 27 1 [I64 ins, .ref 1000001 gv 0 gs.length, eI os], .cells gv 119 3 (gs.flatMap cG), .gone v0]) (fun r H' => ∃ gv' rv,
      let gs' := gs ++ addG (ins + gs.length) (a.zip b) carry
      r = .ref 1000002 rv 0 a.length ∧ H' 1000000 = .cells v 27 1 [I64 ins, .ref 1000001 gv' 0 gs'.length, eI os] ∧ H' 1000001 = .cells gv' 119 3 (gs'.flatMap cG) ∧ H' 1000002 = .cells rv 3 1 ((addW (ins + gs.length) a.length).map I64)) := by
  refine ACall.own (R := fun r H' => ∃ gv' rv,
      let gs' := gs ++ addG (ins + gs.length) (a.zip b) carry
      r = .ref 14 rv 0 a.length ∧ H' 1000000 = .cells v 27 1 [I64 ins, .ref 1000001 gv' 0 gs'.length, eI os] ∧ H' 1000001 = .cells gv' 119 3 (gs'.flatMap cG) ∧ H' 14 = .cells rv 3 1 ((addW (ins + gs.length) a.length).map I64)) 1000002 (by omega) ?_ ?_
  · refine call81 (by simp) ?_
    simp only [Try.results81, Try.ntmps81, Try.f81, Option.getD_some, pl81]
    simp only [go_sem, eI]
    refine ALoop.intro (pl := pl81) (fun k env H => ∃ (i gv' rv : Nat) (gs' : List Gate) (ws : List Int) (c : Int), env 0 = .ptr 1000000 v 0 ∧ env 1 = eI a ∧ env 2 = eI b ∧ env 3 = I64 c ∧ env 9 = .ref 14 rv 0 ws.length ∧ env 16 = I64 a.length ∧ env 17 = I64 i ∧
      H 1000000 = .cells v 27 1 [I64 ins, .ref 1000001 gv' 0 gs'.length, eI os] ∧ H 1000001 = .cells gv' 119 3 (gs'.flatMap cG) ∧ H 14 = .cells rv 3 1 (ws.map I64) ∧ i + k = a.length ∧ gs'.length = gs.length + 5 * i ∧ ws.length = i ∧
      gs' ++ addG (ins + gs'.length) ((a.zip b).drop i) c = gs ++ addG (ins + gs.length) (a.zip b) carry ∧ ws ++ addW (ins + gs'.length) k = addW (ins + gs.length) a.length) a.length (by kernel_rfl) ?_ ?_
    · simp only [go_sem, eI]
      exact ⟨0, gv, _, gs, [], carry, rfl, rfl, by simp, rfl, rfl, rfl, by omega, by omega, rfl, by simp, by simp⟩
    · rintro k env H ⟨i, gv', rv, gs', ws, c, e0, e1, e2, e3, e9, e16, e17, b0, b1, b14, hk, hgl, hwl, hg, hw⟩
      by_cases hz : (i : Int) < a.length
      · obtain ⟨x, hx⟩ : ∃ x, a[i]? = some x := ⟨_, List.getElem?_eq_getElem (by omega)⟩
        obtain ⟨y, hy⟩ : ∃ y, b[i]? = some y := ⟨_, List.getElem?_eq_getElem (by omega)⟩
        have h0 : (0 : Int) ≤ i := by omega
        have hw1 : IntKind.wrap .i64 ((i : Int) + 1) = i + 1 := i64_in _ (by omega)
        simp only [go_sem, pl81, e0, e1, e2, e3, e9, e16, e17, b0, b1, b14, eI, hz, hx, hy, h0]
        refine c_put (id := 1000000) (gid := 1000001) (gv := gv') (ins := ins) (gs := gs') (os := os) (by omega) (by omega) (by omega) (by first | omega | (simp only [List.length_append, List.length_cons, List.length_nil]; omega)) (by simp only [go_sem, b0, eI]) (by simp only [go_sem, b1]) ?_
        simp only [go_sem, pl81, e0, e1, e2, e3, e9, e16, e17, b0, b1, b14, eI, hz, hx, hy, h0, hw1]
        refine c_put (id := 1000000) (gid := 1000001) (gv := gv' + 1) (ins := ins) (gs := (gs' ++ [(5, x, y)])) (os := os) (by omega) (by omega) (by omega) (by first | omega | (simp only [List.length_append, List.length_cons, List.length_nil]; omega)) (by simp only [go_sem, b0, eI]) (by simp only [go_sem, b1]) ?_
        simp only [go_sem, pl81, e0, e1, e2, e3, e9, e16, e17, b0, b1, b14, eI, hz, hx, hy, h0, hw1]
        refine ⟨by omega, ?_⟩
        refine c_put (id := 1000000) (gid := 1000001) (gv := gv' + 1 + 1) (ins := ins) (gs := ((gs' ++ [(5, x, y)]) ++ [(5, ins + gs'.length, c)])) (os := os) (by omega) (by omega) (by omega) (by first | omega | (simp only [List.length_append, List.length_cons, List.length_nil]; omega)) (by simp only [go_sem, b0, eI]) (by simp only [go_sem, b1]) ?_
        simp only [go_sem, pl81, e0, e1, e2, e3, e9, e16, e17, b0, b1, b14, eI, hz, hx, hy, h0, hw1]
        refine c_put (id := 1000000) (gid := 1000001) (gv := gv' + 1 + 1 + 1) (ins := ins) (gs := (((gs' ++ [(5, x, y)]) ++ [(5, ins + gs'.length, c)]) ++ [(3, x, y)])) (os := os) (by omega) (by omega) (by omega) (by first | omega | (simp only [List.length_append, List.length_cons, List.length_nil]; omega)) (by simp only [go_sem, b0, eI]) (by simp only [go_sem, b1]) ?_
        simp only [go_sem, pl81, e0, e1, e2, e3, e9, e16, e17, b0, b1, b14, eI, hz, hx, hy, h0, hw1]
        refine c_put (id := 1000000) (gid := 1000001) (gv := gv' + 1 + 1 + 1 + 1) (ins := ins) (gs := ((((gs' ++ [(5, x, y)]) ++ [(5, ins + gs'.length, c)]) ++ [(3, x, y)]) ++ [(3, ins + gs'.length, c)])) (os := os) (by omega) (by omega) (by omega) (by first | omega | (simp only [List.length_append, List.length_cons, List.length_nil]; omega)) (by simp only [go_sem, b0, eI]) (by simp only [go_sem, b1]) ?_
        simp only [go_sem, pl81, e0, e1, e2, e3, e9, e16, e17, b0, b1, b14, eI, hz, hx, hy, h0, hw1]
        have hd : (a.zip b).drop i = (x, y) :: (a.zip b).drop (i + 1) := drop_step (List.getElem?_zip_eq_some.2 ⟨hx, hy⟩)
        obtain ⟨k', rfl⟩ : ∃ k', k = k' + 1 := ⟨k - 1, by omega⟩
        rw [hd, addG] at hg
        rw [addW] at hw
        have hl1 : ((gs' ++ add1 (ins + gs'.length) x y c).length : Nat) = gs'.length + 5 := by simp [add1]
        refine ⟨k', by omega, i + 1, _, _, gs' ++ add1 (ins + gs'.length) x y c, ws ++ [ins + gs'.length + 1], ins + gs'.length + 4, congrArg I64 (by omega), by rw [List.length_append]; rfl, rfl, by rw [hl1], ?_, ?_, by omega, by rw [hl1]; omega, by rw [List.length_append, hwl]; rfl, ?_, ?_⟩
        · congr 1
          rw [show gs' ++ [(5, x, y)] ++ [(5, ins + ↑gs'.length, c)] ++ [(3, x, y)] ++ [(3, ins + ↑gs'.length, c)] ++ [(4, ins + ↑(gs'.length + 1 + 1), ins + ↑(gs'.length + 1 + 1 + 1))] = gs' ++ add1 (ins + gs'.length) x y c from ?_]
          simp [add1]
          omega
        · congr 1
          rw [List.map_append]
          congr 2
          exact congrArg I64 (by omega)
        · rw [hl1, ← hg, List.append_assoc, show (ins + ((gs'.length + 5 : Nat) : Int)) = ins + gs'.length + 5 by omega]
        · rw [hl1, ← hw, List.append_assoc, show (ins + ((gs'.length + 5 : Nat) : Int)) = ins + gs'.length + 5 by omega]
          rfl
      · simp only [go_sem, pl81, e0, e1, e2, e3, e9, e16, e17, b0, b1, b14, eI, hz]
        have hk0 : k = 0 := by omega
        subst hk0
        rw [List.drop_of_length_le (by simp; omega), addG, List.append_nil] at hg
        rw [addW, List.append_nil] at hw
        have hi2 : i = a.length := by omega
        refine ⟨gv', rv, by rw [hwl, hi2], by rw [hg, List.length_append], by rw [hg], by rw [hw]⟩
  · rintro r H' ⟨gv', rv, rfl, h0, h1, h2⟩
    refine .inl ⟨14, rv, 3, 1, _, _, by omega, h2, .ref 0 _, gv', _, rfl, ?_, ?_, by rw [upd_same]⟩
    · rw [upd_ne _ _ (by omega), upd_ne _ _ (by omega)]; exact h0
    · rw [upd_ne _ _ (by omega), upd_ne _ _ (by omega)]; exact h1
end Go.Proofs.Ytjkcoldpecdajaa

set_option linter.unusedVariables false
set_option linter.unusedSimpArgs false
namespace Go.Proofs.Ytjkcoldpecdajaa
open Go.Abs Go.IntWalk
set_option maxRecDepth 100000
attribute [local go_sem] eI eGs eC eB eBs take_map
@[local go_sem] theorem take_cG2 (gs : List Gate) : List.take (gs.length * 3) (gs.flatMap cG) = gs.flatMap cG := take_flat cG_len gs
@[local go_sem] theorem len_cG2 (gs : List Gate) : (gs.flatMap cG).length = gs.length * 3 := len_flat cG_len gs
def wiresOf (c : Circ) : Int := c.1 + c.2.1.length
def listsOk (c : Circ) (a b : List Int) : Prop := goodC c ∧ a.length = b.length ∧ a.length ≤ 16 ∧ allIn a 0 (wiresOf c - 1) ∧ allIn b 0 (wiresOf c - 1)
instance (c : Circ) (a b : List Int) : Decidable (listsOk c a b) := by unfold listsOk; infer_instance
theorem good_bounds {c : Circ} (h : goodC c) : 0 ≤ c.1 ∧ c.1 ≤ 16 ∧ c.2.1.length ≤ 300 ∧ c.2.2.length ≤ 16 := ⟨h.1.1, h.1.2, h.2.1, h.2.2.1⟩
theorem c_areLists {c : Circ} {a b : List Int} {H : Heap} {K : AV → Heap → Prop} (hc : CircOk c) (ha : a.length ≤ 1000000000) (hb : b.length ≤ 1000000000) (hK : K (.bool (decide (listsOk c a b))) H) : ACall Try.prog 77 [eC c, eI a, eI b] H K := by
  refine ACall.pure (R := fun r _ => r = .bool (decide (listsOk c a b))) rfl ?_ ?_
  · refine call77 (by simp) ?_
    simp only [Try.results77, Try.ntmps77, Try.f77, Option.getD_some, pl77]
    simp only [go_sem]
    refine c_goodI (c := c) hc (.cl rfl) ?_
    by_cases h1 : goodC c
    · have hB := good_bounds h1
      by_cases h2 : (a.length : Int) = b.length
      · by_cases h3 : (b.length : Int) ≤ 16
        · simp only [go_sem, h1, h2, h3]
          refine c_wiresI (c := c) (.cl rfl) (by omega) (by omega) ?_
          simp only [go_sem]
          refine c_areBelow (l := a) ha (.cl rfl) ?_
          by_cases h4 : allIn a 0 (c.1 + c.2.1.length - 1)
          · simp only [go_sem, h4]
            refine c_wiresI (c := c) (.cl rfl) (by omega) (by omega) ?_
            simp only [go_sem]
            refine c_areBelow (l := b) hb (.cl rfl) ?_
            simp only [go_sem]
            exact bE ⟨fun h => ⟨h1, by omega, by omega, h4, h⟩, fun h => h.2.2.2.2⟩
          · simp only [go_sem, h4]
            exact bF fun h => h4 h.2.2.2.1
        · simp only [go_sem, h1, h2, h3]
          exact bF fun h => by have := h.2.2.1; omega
      · simp only [go_sem, h1, h2]
        exact bF fun h => by have := h.2.1; omega
    · simp only [go_sem, h1]
      exact bF fun h => h1 h.1
  · rintro r H' rfl
    exact ⟨_, .cl rfl, rfl, hK⟩
theorem c_copy {c : Circ} {H : Heap} {K : AV → Heap → Prop} (d : Nat) {v0 : Nat} (hd : H d = .gone v0) (hc : CircOk c) (hK : ∀ ver, K (.agg [I64 c.1, .ref d ver 0 c.2.1.length, eI c.2.2]) (upd H d (.cells ver 119 3 (c.2.1.flatMap cG)))) : ACall Try.prog 80 [eC c] H K := by
  obtain ⟨ins, gs, os⟩ := c
  obtain ⟨hc1, hc2⟩ := hc
  simp only at hc1 hc2 hK ⊢
  refine ACall.hand [d] [.gone v0] (args' := [eC (ins, gs, os)]) (R := fun r H' => ∃ ver, r = .agg [I64 ins, .ref 1000000 ver 0 gs.length, eI os] ∧ H' 1000000 = .cells ver 119 3 (gs.flatMap cG)) (by simp) ⟨by rw [hd]; rfl, trivial⟩ rfl rfl rfl ?_ ?_
  · refine call80 (by simp) ?_
    simp only [Try.results80, Try.ntmps80, Try.f80, Option.getD_some, pl80]
    simp only [go_sem]
    refine c_cloneG (gs := gs) 1000000 (v0 := v0) (by simp only [go_sem]) hc1 fun ver => ?_
    simp only [go_sem]
    refine c_cloneI (l := os) hc2 ?_
    simp only [go_sem]
    exact ⟨ver, rfl, rfl⟩
  · rintro r H' ⟨ver, rfl, h⟩
    refine ⟨_, [_], ⟨h, trivial⟩, rfl, ?_, .keep _ rfl, ?_⟩
    · simp only [List.all_cons, List.all_nil, inB_cl (cl_cG gs)]; rfl
    · simp only [lays, Blk.ren, renL_closed _ _ (cl_cG _)]
      exact hK ver
theorem c_putAdd {id gid d v gv : Nat} {ins carry : Int} {gs : List Gate} {os a b : List Int} {v0 : Nat} {H : Heap} {K : AV → Heap → Prop} (hn1 : id ≠ gid) (hn2 : id ≠ d) (hn3 : gid ≠ d) (hab : a.length = b.length) (ha : a.length ≤ 1000) (hi : -100 ≤ ins) (hi2 : ins ≤ 100) (hl : gs.length ≤ 10000)
    (h0 : H id = .cells v 27 1 [I64 ins, .ref gid gv 0 gs.length, eI os]) (h1 : H gid = .cells gv 119 3 (gs.flatMap cG)) (hd : H d = .gone v0)
    (hK : ∀ gv' rv gs', gs' = gs ++ addG (ins + gs.length) (a.zip b) carry → K (.ref d rv 0 a.length) (upd (upd (upd H id (.cells v 27 1 [I64 ins, .ref gid gv' 0 gs'.length, eI os])) gid (.cells gv' 119 3 (gs'.flatMap cG))) d (.cells rv 3 1 ((addW (ins + gs.length) a.length).map I64)))) :
    ACall Try.prog 81 [.ptr id v 0, eI a, eI b, I64 carry] H K := by
  refine ACall.hand [id, gid, d] [.cells v 27 1 [I64 ins, .ref 1000001 gv 0 gs.length, eI os], .cells gv 119 3 (gs.flatMap cG), .gone v0] (args' := [.ptr 1000000 v 0, eI a, eI b, I64 carry]) (by simp [hn1, hn2, hn3]) ?_ ?_ ?_ ?_ (k_putAdd hab ha hi hi2 hl) ?_
  · exact ⟨h0, by rw [h1, Blk.ren, renL_closed _ _ (cl_cG gs)], hd, trivial⟩
  · simp only [List.all_cons, List.all_nil, inB_cl (cl_cG gs)]; rfl
  · rfl
  · rfl
  · rintro r' H' ⟨gv', rv, rfl, h2, h3, h4⟩
    refine ⟨_, [_, _, _], ⟨h2, h3, h4, trivial⟩, rfl, ?_, .keep _ rfl, ?_⟩
    · simp only [List.all_cons, List.all_nil, inB_cl (cl_cG _), inB_cl (cl_I _)]; rfl
    · simp only [lays, Blk.ren, renL_closed _ _ (cl_cG _), renL_closed _ _ (cl_I _)]
      exact hK gv' rv _ rfl
/-- The sum of two lists of wires. -/
def addOf (c : Circ) (a b : List Int) (carry : Int) : Circ × List Int × Bool :=
  let c' : Circ := (c.1, c.2.1 ++ addG (wiresOf c) (a.zip b) carry, c.2.2)
  if (listsOk c a b ∧ 0 ≤ carry ∧ carry ≤ wiresOf c - 1) ∧ goodC c' then (c', addW (wiresOf c) a.length, true) else ((0, [], []), [], false)
def eAdd (x : Circ × List Int × Bool) : AV := .tup [eC x.1, eI x.2.1, .bool x.2.2]
theorem frzIn {H : Heap} {β : Nat → Bool} {id ver T n : Nat} {l : List Int} (hn : n = l.length) (hβ : β id = true) (h : H id = .cells ver T 1 (l.map I64)) : FRes H β anyAV (.ref id ver 0 n) (eI l) := by
  subst hn; exact frzI hβ h
theorem resIn {L : Nat → Bool} {H : Heap} {id ver T n : Nat} {l : List Int} (hn : n = l.length) (hL : L id = false) (h : H id = .cells ver T 1 (l.map I64)) : Res L anyAV H (.ref id ver 0 n) (eI l) := by
  subst hn; exact resI hL h
theorem c_addI {c : Circ} {a b : List Int} {carry : Int} {H : Heap} {K : AV → Heap → Prop} (hc : CircOk c) (ha : a.length ≤ 1000000000) (hb : b.length ≤ 1000000000) (hK : K (eAdd (addOf c a b carry)) H) : ACall Try.prog 14 [eC c, eI a, eI b, I64 carry] H K := by
  obtain ⟨ins, gs, os⟩ := c
  refine ACall.pure (R := fun r H' => Res (fun _ => false) anyAV H' r (eAdd (addOf (ins, gs, os) a b carry))) rfl ?_ ?_
  · refine call14 (by simp) ?_
    simp only [Try.results14, Try.ntmps14, Try.f14, Option.getD_some, pl14]
    simp only [go_sem]
    have nope : ∀ (H : Heap), ¬ ((listsOk (ins, gs, os) a b ∧ 0 ≤ carry ∧ carry ≤ wiresOf (ins, gs, os) - 1) ∧ goodC (ins, gs ++ addG (wiresOf (ins, gs, os)) (a.zip b) carry, os)) → Res (fun _ => false) anyAV H (.tup [.agg [I64 0, .nil, .nil], .nil, .bool false]) (eAdd (addOf (ins, gs, os) a b carry)) := fun H h => by
      simp only [addOf, if_neg h, eAdd]
      exact .tup3 (.agg3 (.cl rfl) (.frz _ _ (.nil 3)) (.frz _ _ (.nil 1))) (.frz _ _ (.nil 1)) (.cl rfl)
    refine c_areLists (c := (ins, gs, os)) (a := a) (b := b) hc ha hb ?_
    by_cases h1 : listsOk (ins, gs, os) a b
    · have hB := good_bounds h1.1
      simp only at hB
      have hl := h1.2.1
      have hl2 := h1.2.2.1
      simp only [go_sem, h1]
      refine c_wiresI (c := (ins, gs, os)) (.cl rfl) (by simp only; omega) (by simp only; omega) ?_
      simp only [go_sem]
      refine c_areBelow (l := [carry]) (by simp) (.frz _ _ (frzIn (T := 3) rfl rfl (by simp only [go_sem]))) ?_
      by_cases h2 : allIn [carry] 0 (ins + gs.length - 1)
      · simp only [go_sem, h2]
        refine c_copy (c := (ins, gs, os)) 900 (v0 := 0) (by simp only [go_sem]; rfl) hc fun ver => ?_
        simp only [go_sem]
        refine c_putAdd (id := 11) (gid := 900) (d := 901) (ins := ins) (gs := gs) (os := os) (a := a) (b := b) (gv := ver) (v0 := 0) (by omega) (by omega) (by omega) hl (by omega) (by omega) (by omega) (by omega) (by simp only [go_sem]) (by simp only [go_sem]) (by simp only [go_sem]; rfl) fun gv' rv gs' hgs => ?_
        have hgl : gs'.length = gs.length + 5 * a.length := by rw [hgs, List.length_append, addG_len, List.length_zip, hl, Nat.min_self]
        simp only [go_sem]
        refine c_goodI (c := (ins, gs', os)) ⟨by simp only; omega, hc.2⟩ (.agg3 (.cl rfl) (.frz _ _ (frzGn (T := 119) rfl rfl (by simp only [go_sem]))) (.cl rfl)) ?_
        have h3 : 0 ≤ carry ∧ carry ≤ wiresOf (ins, gs, os) - 1 := by simpa [allIn, wiresOf] using h2
        by_cases h4 : goodC (ins, gs', os)
        · simp only [go_sem, h4]
          have yes : addOf (ins, gs, os) a b carry = ((ins, gs', os), addW (ins + gs.length) a.length, true) := by
            simp only [addOf]
            rw [if_pos ⟨⟨h1, h3⟩, by rw [hgs] at h4; exact h4⟩, hgs]
            rfl
          rw [yes]
          exact .tup3 (.agg3 (.cl rfl) (.frz _ _ (frzGn (T := 119) rfl rfl (by simp only [go_sem]))) (.cl rfl)) (resIn (T := 3) (addW_len _ _).symm rfl (by simp only [go_sem])) (.cl rfl)
        · simp only [go_sem, h4]
          exact nope _ fun h => h4 (by rw [hgs]; exact h.2)
      · simp only [go_sem, h2]
        exact nope _ fun h => h2 (by simpa [allIn, wiresOf] using h.1.2)
    · simp only [go_sem, h1]
      exact nope _ fun h => h1 h.1.1
  · rintro r H' h
    exact ⟨_, h, rfl, hK⟩
end Go.Proofs.Ytjkcoldpecdajaa

set_option linter.unusedVariables false
set_option linter.unusedSimpArgs false
namespace Go.Proofs.Ytjkcoldpecdajaa
open Go.Abs Go.IntWalk
set_option maxRecDepth 100000
attribute [local go_sem] eI eGs eC eB eBs take_map take_cG2 len_cG2
theorem bI {p q : Prop} [Decidable p] [Decidable q] (h : p ↔ q) : decide p = decide q := decide_eq_decide.2 h
theorem c_lists {c : Circ} {a b : List Int} {H : Heap} {K : AV → Heap → Prop} (hc : CircOk c) (ha : a.length ≤ 1000000000) (hb : b.length ≤ 1000000000) (hK : K (.bool (decide (listsOk c a b))) H) : ACall Try.prog 82 [eC c, eI a, eI b] H K := by
  refine ACall.pure (R := fun r _ => r = .bool (decide (listsOk c a b))) rfl ?_ ?_
  · refine call82 (by simp) ?_
    simp only [Try.results82, Try.ntmps82, Try.f82, Option.getD_some, pl82]
    simp only [go_sem]
    refine c_goodS (c := c) hc ?_
    by_cases h1 : goodC c
    · have hB := good_bounds h1
      have hw : IntKind.wrap .i64 (c.1 + (c.2.1.length : Int) - 1) = c.1 + c.2.1.length - 1 := i64_in _ (by omega)
      by_cases h2 : (a.length : Int) = b.length
      · by_cases h3 : (b.length : Int) ≤ 16
        · simp only [go_sem, h1, h2, h3]
          refine c_w4 (c := c) (.cl rfl) (by omega) (by omega) ?_
          simp only [go_sem, hw]
          refine c_all (l := a) ha ?_
          by_cases h4 : allIn a 0 (c.1 + c.2.1.length - 1)
          · simp only [go_sem, h4]
            refine c_w4 (c := c) (.cl rfl) (by omega) (by omega) ?_
            simp only [go_sem, hw]
            refine c_all (l := b) hb ?_
            simp only [go_sem]
            exact bE ⟨fun h => ⟨h1, by omega, by omega, h4, h⟩, fun h => h.2.2.2.2⟩
          · simp only [go_sem, h4]
            exact bF fun h => h4 h.2.2.2.1
        · simp only [go_sem, h1, h2, h3]
          exact bF fun h => by have := h.2.2.1; omega
      · simp only [go_sem, h1, h2]
        exact bF fun h => by have := h.2.1; omega
    · simp only [go_sem, h1]
      exact bF fun h => h1 h.1
  · rintro r H' rfl
    exact ⟨_, .cl rfl, rfl, hK⟩
theorem c_ownI {l : List Int} {H : Heap} {K : AV → Heap → Prop} (hl : l.length ≤ 1000000000) (hK : K (eI l) H) : ACall Try.prog 150 [eI l] H K := by
  refine ACall.pure (R := fun r H' => (∃ v, r = .ref 3 v 0 l.length ∧ H' 3 = .cells v 3 1 (l.map I64))) rfl ?_ ?_
  · refine call150 (by simp) ?_
    simp only [Try.results150, Try.ntmps150, Try.f150, Option.getD_some, pl150]
    simp only [go_sem, flat_map1 (f := I64) (fun _ => rfl) l]
    exact ⟨by omega, sc_I l, _, rfl, rfl⟩
  · rintro r H' ⟨v, rfl, h⟩
    exact ⟨_, resI rfl h, rfl, hK⟩
theorem c_own {c : Circ} {H : Heap} {K : AV → Heap → Prop} (d : Nat) {v0 : Nat} (hd : H d = .gone v0) (hc : CircOk c) (hK : ∀ ver, K (.agg [I64 c.1, .ref d ver 0 c.2.1.length, eI c.2.2]) (upd H d (.cells ver 119 3 (c.2.1.flatMap cG)))) : ACall Try.prog 84 [eC c] H K := by
  obtain ⟨ins, gs, os⟩ := c
  obtain ⟨hc1, hc2⟩ := hc
  simp only at hc1 hc2 hK ⊢
  refine ACall.hand [d] [.gone v0] (args' := [eC (ins, gs, os)]) (R := fun r H' => ∃ ver, r = .agg [I64 ins, .ref 1000000 ver 0 gs.length, eI os] ∧ H' 1000000 = .cells ver 119 3 (gs.flatMap cG)) (by simp) ⟨by rw [hd]; rfl, trivial⟩ rfl rfl rfl ?_ ?_
  · refine ACall.own (R := fun r H' => ∃ ver, r = .agg [I64 ins, .ref 5 ver 0 gs.length, eI os] ∧ H' 5 = .cells ver 119 3 (gs.flatMap cG)) 1000000 (by omega) ?_ ?_
    · refine call84 (by simp) ?_
      simp only [Try.results84, Try.ntmps84, Try.f84, Option.getD_some, pl84]
      simp only [go_sem, flat_eG]
      refine ⟨by omega, sc_cG gs, ?_⟩
      refine c_ownI (l := os) hc2 ?_
      simp only [go_sem]
      exact ⟨_, rfl, rfl⟩
    · rintro r H' ⟨ver, rfl, h⟩
      refine .inl ⟨5, ver, 119, 3, _, .agg [I64 ins, .ref 1000000 _ 0 gs.length, eI os], by omega, h, .agg _ _ rfl ?_, _, rfl, by rw [upd_same]⟩
      intro i x y hx hy
      match i with
      | 0 => simp at hx hy; subst hx hy; exact .same _
      | 1 => simp at hx hy; subst hx hy; exact .ref 0 _
      | 2 => simp at hx hy; subst hx hy; exact .same _
      | i + 3 => simp at hx
  · rintro r H' ⟨ver, rfl, h⟩
    refine ⟨_, [_], ⟨h, trivial⟩, rfl, ?_, .keep _ rfl, ?_⟩
    · simp only [List.all_cons, List.all_nil, inB_cl (cl_cG gs)]; rfl
    · simp only [lays, Blk.ren, renL_closed _ _ (cl_cG _)]
      exact hK ver
theorem c_gateB {id gid v gv : Nat} {ins : Int} {gs : List Gate} {os : List Int} {kind x y : Int} {H : Heap} {K : AV → Heap → Prop} (hne : id ≠ gid) (hi : -1000 ≤ ins) (hi2 : ins ≤ 1000) (hl : gs.length ≤ 1000000) (h0 : H id = .cells v 117 1 [I64 ins, .ref gid gv 0 gs.length, eI os]) (h1 : H gid = .cells gv 119 3 (gs.flatMap cG))
    (hK : K (I64 (ins + gs.length)) (upd (upd H id (.cells v 117 1 [I64 ins, .ref gid (gv + 1) 0 (gs ++ [(kind, x, y)]).length, eI os])) gid (.cells (gv + 1) 119 3 ((gs ++ [(kind, x, y)]).flatMap cG)))) : ACall Try.prog 151 [.ptr id v 0, I64 kind, I64 x, I64 y] H K := by
  refine ACall.hand [id, gid] [.cells v 117 1 [I64 ins, .ref 1000001 gv 0 gs.length, eI os], .cells gv 119 3 (gs.flatMap cG)] (args' := [.ptr 1000000 v 0, I64 kind, I64 x, I64 y]) (R := fun r H' => r = I64 (ins + gs.length) ∧ H' 1000000 = .cells v 117 1 [I64 ins, .ref 1000001 (gv + 1) 0 (gs ++ [(kind, x, y)]).length, eI os] ∧ H' 1000001 = .cells (gv + 1) 119 3 ((gs ++ [(kind, x, y)]).flatMap cG)) (by simp [hne]) ?_ ?_ ?_ ?_ ?_ ?_
  · exact ⟨h0, by rw [h1, Blk.ren, renL_closed _ _ (cl_cG gs)], trivial⟩
  · simp only [List.all_cons, List.all_nil, inB_cl (cl_cG gs)]; rfl
  · rfl
  · rfl
  · refine call151 (by simp) ?_
    simp only [Try.results151, Try.ntmps151, Try.f151, Option.getD_some, pl151]
    simp only [go_sem]
    refine ⟨by omega, ?_⟩
    have e : gs.flatMap cG ++ [AV.int .i64 kind, AV.int .i64 x, AV.int .i64 y] = (gs ++ [(kind, x, y)]).flatMap cG := by simp [cG]
    rw [e]
    refine c_w4 (c := (ins, gs ++ [(kind, x, y)], os)) (.agg3 (.cl rfl) (.frz _ _ ?_) (.cl rfl)) (by simp only; omega) (by simp only [List.length_append, List.length_cons, List.length_nil]; omega) ?_
    · exact frzGn (T := 119) (by simp) rfl (by simp only [go_sem])
    · have hw : IntKind.wrap .i64 (ins + ((gs.length + 1 : Nat) : Int) - 1) = ins + gs.length := (i64_in _ (by omega)).trans (by omega)
      simp only [go_sem, hw]
  · rintro r' H' ⟨rfl, h2, h3⟩
    refine ⟨_, [_, _], ⟨h2, h3, trivial⟩, rfl, ?_, .cl rfl, ?_⟩
    · simp only [List.all_cons, List.all_nil, inB_cl (cl_cG _)]; rfl
    · simp only [lays, Blk.ren, renL_closed _ _ (cl_cG _)]
      exact hK
end Go.Proofs.Ytjkcoldpecdajaa
