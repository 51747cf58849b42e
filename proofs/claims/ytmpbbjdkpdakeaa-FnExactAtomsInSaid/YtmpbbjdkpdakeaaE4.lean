/- Texts of ours, joined: YtmpbbjdkpdakeaaS6 YtmpbbjdkpdakeaaS7. -/
import Derived.Test.YtmpbbjdkpdakeaaE3
set_option linter.unusedVariables false
set_option linter.unusedSimpArgs false
namespace Go.Proofs.Ytmpbbjdkpdakeaa
open Go.Abs Go.IntWalk
set_option maxRecDepth 100000
attribute [local go_sem] eI eU eS cS eSs take_map
theorem flat_e {α : Type} {e : α → AV} {c : α → List AV} (h : ∀ x, flat (e x) = c x) : ∀ t : List α, (t.map e).flatMap flat = t.flatMap c
  | [] => rfl
  | a :: t => by rw [List.map_cons, List.flatMap_cons, List.flatMap_cons, flat_e h t, h]
theorem frS {H : Heap} {β : Nat → Bool} {d ver : Nat} {t : List PSaid} (hb : β d = true) (h : H d = .cells ver 101 2 (t.flatMap cS)) : FRes H β anyAV (.ref d ver 0 t.length) (eSs t) := by
  have := FRes.slice (H := H) (β := β) (id := d) (ver := ver) (T := 101) (sz := 2) (cs := t.flatMap cS) (pre := []) (post := []) (off := 0) (es := t.map eS) hb h (by rw [flat_e (c := cS) (fun _ => rfl)]; simp) rfl
    (fun e he => by obtain ⟨x, _, rfl⟩ := List.mem_map.1 he; rfl) (fun e he y hy => by obtain ⟨x, _, rfl⟩ := List.mem_map.1 he; simp [flat, eS, cS] at hy; rcases hy with rfl | rfl <;> rfl)
  rw [List.length_map] at this
  exact this
theorem c_szSaidS {t : List PSaid} {left : Int} {H : Heap} {K : AV → Heap → Prop} (hl : left ≤ 1048576) (hl0 : 0 ≤ left) (ht : t.length ≤ 9223372036854775807) (hK : ∀ r, (0 ≤ r → r ≤ left ∧ smSaidS t) → K (I64 r) H) : ACall Try.prog 33 [eSs t, I64 left] H K := by
  refine ACall.pure (R := fun r _ => ∃ n, r = I64 n ∧ (0 ≤ n → n ≤ left ∧ smSaidS t)) rfl ?_ fun r H' h => by obtain ⟨n, rfl, h⟩ := h; exact ⟨_, .cl rfl, rfl, hK n h⟩
  refine call33 (by simp) ?_
  simp only [Try.results33, Try.ntmps33, Try.f33, Option.getD_some, pl33]
  have hw : IntKind.wrap .i64 (left - (t.length : Int)) = left - t.length := i64_in _ (by omega)
  by_cases h1 : left - (t.length : Int) < 0
  · simp only [go_sem, hw, h1]
    exact ⟨_, rfl, by omega⟩
  · simp only [go_sem, hw, h1]
    exact ⟨_, rfl, fun _ => ⟨by omega, by omega, fun _ _ => trivial⟩⟩
theorem l_eqSaidS {a b : List PSaid} {x : AV} {H : Heap} {K : AV → Heap → Prop} (hx : FRes H (fun _ => true) anyAV x (eSs a)) (ha : smSaidS a) (hb : smSaidS b) (hK : K (.bool (decide (a = b))) H) : ACall Try.prog 39 [x, eSs b] H K :=
  ACall.peek (R := fun r _ => r = .bool (decide (a = b))) (c_eqSaidS ha hb rfl) (.cons _ _ _ _ (.frz _ _ hx) (.cons _ _ _ _ (.cl rfl) .nil)) fun r H' h => by subst h; exact ⟨rfl, hK⟩
def OutL (ok : Prop) (res : List Int) (b : Blk) (r : AV) (H' : Heap) : Prop :=
  (ok ∧ ∃ ver, r = .tup [.ref 1000000 ver 0 res.length, .bool true] ∧ H' 1000000 = .cells ver 3 1 (res.map I64)) ∨ (¬ ok ∧ r = .tup [.nil, .bool false] ∧ H' 1000000 = b)
theorem frozL {g : FuncId} {args args' : List AV} {ok : Prop} [Decidable ok] {res : List Int} {H : Heap} {K : AV → Heap → Prop} (hv : Views H (fun _ => false) id (fun _ => false) args args') (hk : ACall Try.prog g args' H0 (OutL ok res (.gone 0))) (hno : ¬ ok → res = []) (hK : K (.tup [eI res, .bool (decide ok)]) H) : ACall Try.prog g args H K := by
  refine ACall.pureV hv hk ?_
  rintro r H' (⟨h, ver, rfl, h1⟩ | ⟨h, rfl, _⟩)
  · rw [decide_eq_true h] at hK
    exact ⟨_, .tup2 (resI rfl rfl h1) (.cl rfl), rfl, hK⟩
  · rw [decide_eq_false h, hno h] at hK
    exact ⟨_, .tup2 (.frz _ _ (.nil 1)) (.cl rfl), rfl, hK⟩
theorem lendL {g : FuncId} {args args' : List AV} {ok : Prop} {res : List Int} {H : Heap} {K : AV → Heap → Prop} {e v0 : Nat} (hg : H e = .gone v0) (hv : Views H (inL 1) (rhoL [e]) (fun j => !([e].contains j)) args args') (hk : ACall Try.prog g args' (hp [.gone v0]) (OutL ok res (.gone v0)))
    (h1 : ok → ∀ ver, K (.tup [.ref e ver 0 res.length, .bool true]) (upd H e (.cells ver 3 1 (res.map I64)))) (h2 : ¬ ok → K (.tup [.nil, .bool false]) H) : ACall Try.prog g args H K := by
  refine ACall.handL [e] [.gone v0] (by simp) ⟨by rw [hg]; rfl, trivial⟩ (by simp [Blk.inB]) hv hk ?_
  rintro r H' (⟨hst, ver, rfl, h⟩ | ⟨hst, rfl, h⟩)
  · refine ⟨[.cells ver 3 1 (res.map I64)], ⟨h, trivial⟩, rfl, ?_, rfl, ?_⟩
    · simp only [List.all_cons, List.all_nil, Bool.and_true, Blk.inB]
      exact within_plainM (fun _ => rfl) _
    · have := h1 hst ver
      simp only [lays, Blk.ren, renL_closed _ _ (cll_map (f := I64) (l := res) fun _ => rfl)]
      exact this
  · refine ⟨[.gone v0], ⟨h, trivial⟩, rfl, by simp [Blk.inB], rfl, ?_⟩
    simp only [lays, Blk.ren]
    have := h2 hst
    have e0 : rhoL [e] 1000000 = e := rfl
    rw [show upd H e (.gone v0) = H from by rw [← hg, upd_self]]
    exact this
/-! AtomsIn. -/
def atomsL (f : List PSaid) : List Int := (f.filter fun x => decide (x.1 = 1)).map fun x => x.2
theorem atoms_app {f : List PSaid} {x : PSaid} : atomsL (f ++ [x]) = if x.1 = 1 then atomsL f ++ [x.2] else atomsL f := by
  unfold atomsL
  rw [List.filter_append]
  by_cases h : x.1 = 1
  · rw [if_pos h, List.filter_cons_of_pos (by simp [h])]; simp
  · rw [if_neg h, List.filter_cons_of_neg (by simp [h])]; simp
theorem atoms_len {f : List PSaid} : (atomsL f).length ≤ f.length := by
  unfold atomsL; rw [List.length_map]; exact List.length_filter_le _ _
def atomsOf (f : List PSaid) : List Int := if goodF f then canon (atomsL f) else []
theorem atomsOf_nil {f : List PSaid} (h : ¬ goodF f) : atomsOf f = [] := if_neg h
theorem atomsOf_len {f : List PSaid} : (atomsOf f).length ≤ 1000 := by
  by_cases h : goodF f
  · unfold atomsOf
    rw [if_pos h]
    have := canon_len (l := atomsL f)
    have := atoms_len (f := f)
    have := h.1.2
    omega
  · rw [atomsOf_nil h]; simp
theorem k_atoms {f : List PSaid} (hl : f.length ≤ 16) {H : Heap} : ACall Try.prog 97 [eSs f] H fun r H' => ∃ ver, r = .ref 6 ver 0 (canon (atomsL f)).length ∧ H' 6 = .cells ver 3 1 ((canon (atomsL f)).map I64) := by
  refine call97 (by simp) ?_
  simp only [Try.results97, Try.ntmps97, Try.f97, Option.getD_some, pl97]
  simp only [go_sem]
  refine ALoop.intro (pl := pl97) (fun k env H => ∃ (i v : Nat), env 3 = .ref 6 v 0 (atomsL (f.take i)).length ∧ env 7 = eSs f ∧ env 8 = I64 f.length ∧ env 9 = I64 i ∧ H 6 = .cells v 3 1 ((atomsL (f.take i)).map I64) ∧ i + k = f.length) f.length (by kernel_rfl) ?_ ?_
  · simp only [go_sem]
    exact ⟨0, _, rfl, rfl, rfl, by omega⟩
  · rintro k env H ⟨i, v, e3, e7, e8, e9, b6, hk⟩
    by_cases hz : (i : Int) < f.length
    · obtain ⟨x, hx⟩ := get_some (l := f) (i := i) (by omega)
      have h0 : (0 : Int) ≤ i := by omega
      have hw : IntKind.wrap .i64 ((i : Int) + 1) = i + 1 := i64_in _ (by omega)
      have happ := atoms_app (f := f.take i) (x := x)
      rw [← take_one hx] at happ
      have hal := atoms_len (f := f.take i)
      rw [List.length_take] at hal
      by_cases h1 : x.1 = 1
      · rw [if_pos h1] at happ
        simp only [go_sem, pl97, e3, e7, e8, e9, b6, hz, hx, h0, h1, hw]
        refine ⟨by omega, k - 1, by omega, i + 1, v + 1, ?_, rfl, ?_, by omega⟩
        · rw [happ, List.length_append]; rfl
        · rw [happ, List.map_append]; rfl
      · rw [if_neg h1] at happ
        simp only [go_sem, pl97, e3, e7, e8, e9, b6, hz, hx, h0, h1, hw]
        exact ⟨k - 1, by omega, i + 1, v, by rw [happ], rfl, by rw [happ], by omega⟩
    · rw [List.take_of_length_le (by omega)] at b6 e3
      have hal := atoms_len (f := f)
      simp only [go_sem, pl97, e3, e7, e8, e9, b6, hz]
      refine o_sort (zs := atomsL f) b6 rfl (by omega) ?_
      have hml : ((atomsL f).mergeSort leI).length = (atomsL f).length := List.length_mergeSort _
      simp only [go_sem, pl97, e3]
      refine t_compact (zs := (atomsL f).mergeSort leI) (by simp only [go_sem]) hml.symm (by omega) ?_
      rw [compact_canon]
      simp only [go_sem]
      exact ⟨v, rfl, rfl⟩
theorem k_atomsI {f : List PSaid} (hl : f.length ≤ 1048576) {H : Heap} {v0 : Nat} (hg : H 1000000 = .gone v0) : ACall Try.prog 48 [eSs f] H (OutL (goodF f) (atomsOf f) (.gone v0)) := by
  generalize hR : OutL (goodF f) (atomsOf f) (.gone v0) = R
  refine call48 (by simp) ?_
  simp only [Try.results48, Try.ntmps48, Try.f48, Option.getD_some, pl48]
  simp only [go_sem]
  refine c_goodI (f := f) hl ?_
  by_cases h : goodF f
  · simp only [go_sem, h]
    have e : atomsOf f = canon (atomsL f) := if_pos h
    refine ACall.own 1000000 (by omega) (k_atoms (f := f) h.1.2) ?_
    rintro r H' ⟨ver, rfl, h1⟩
    refine .inl ⟨6, ver, _, 1, _, _, by omega, h1, .ref .., ?_⟩
    simp only [go_sem]
    rw [← hR]
    exact .inl ⟨h, _, by rw [e], by rw [e, upd_same]⟩
  · simp only [go_sem, h]
    rw [← hR]
    exact .inr ⟨h, rfl, hg⟩
theorem c_atomsI {f : List PSaid} (hl : f.length ≤ 1048576) {H : Heap} {K : AV → Heap → Prop} (hK : K (.tup [eI (atomsOf f), .bool (decide (goodF f))]) H) : ACall Try.prog 48 [eSs f] H K := frozL (views_closed _ rfl) (k_atomsI hl rfl) atomsOf_nil hK
theorem c_atomsS {f : List PSaid} (hl : f.length ≤ 1048576) {H : Heap} {K : AV → Heap → Prop} (hK : K (.tup [eI (atomsOf f), .bool (decide (goodF f))]) H) : ACall Try.prog 47 [eSs f] H K := by
  refine ACall.pure (R := fun r _ => (goodF f ∧ ∃ a, r = .tup [a, .bool true] ∧ IsI a (canon (atomsL f))) ∨ (¬ goodF f ∧ r = .tup [.nil, .bool false])) rfl ?_ ?_
  · refine call47 (by simp) ?_
    simp only [Try.results47, Try.ntmps47, Try.f47, Option.getD_some, pl47]
    simp only [go_sem]
    refine c_goodS (f := f) hl ?_
    by_cases h : goodF f
    · simp only [go_sem, h]
      have h16 := h.1.2
      refine ALoop.intro (pl := pl47) (fun k env H => ∃ (i : Nat) (a : AV), env 4 = a ∧ env 10 = eSs f ∧ env 11 = I64 f.length ∧ env 12 = I64 i ∧ IsI a (canon (atomsL (f.take i))) ∧ i + k = f.length) f.length (by kernel_rfl) ?_ ?_
      · simp only [go_sem]
        exact ⟨0, _, rfl, rfl, .inl ⟨rfl, rfl⟩, by omega⟩
      · rintro k env H ⟨i, a, e4, e10, e11, e12, ha, hk⟩
        by_cases hz : (i : Int) < f.length
        · obtain ⟨x, hx⟩ := get_some (l := f) (i := i) (by omega)
          have h0 : (0 : Int) ≤ i := by omega
          have hw : IntKind.wrap .i64 ((i : Int) + 1) = i + 1 := i64_in _ (by omega)
          have happ := atoms_app (f := f.take i) (x := x)
          rw [← take_one hx] at happ
          have hal := atoms_len (f := f.take i)
          rw [List.length_take] at hal
          have hcl := canon_len (l := atomsL (f.take i))
          by_cases h1 : x.1 = 1
          · rw [if_pos h1] at happ
            simp only [go_sem, pl47, e4, e10, e11, e12, hz, hx, h0, h1, hw]
            refine c_put (l := canon (atomsL (f.take i))) (x := x.2) ha (by omega) ?_
            simp only [go_sem, pl47, e4, e10, e11, e12, hz, hx, h0, h1, hw]
            exact ⟨k - 1, by omega, i + 1, _, rfl, rfl, .inr (by rw [happ, canon_app]; rfl), by omega⟩
          · rw [if_neg h1] at happ
            simp only [go_sem, pl47, e4, e10, e11, e12, hz, hx, h0, h1, hw]
            exact ⟨k - 1, by omega, i + 1, _, rfl, rfl, by rw [happ]; exact ha, by omega⟩
        · rw [List.take_of_length_le (by omega)] at ha
          simp only [go_sem, pl47, e4, e10, e11, e12, hz]
          exact .inl ⟨h, a, rfl, ha⟩
    · simp only [go_sem, h]
      first | exact .inr ⟨h, rfl⟩ | exact .inr h | exact .inr trivial
  · rintro r H' (⟨h, a, rfl, ha⟩ | ⟨h, rfl⟩)
    · have e : atomsOf f = canon (atomsL f) := if_pos h
      rw [decide_eq_true h, e] at hK
      rcases ha with ⟨rfl, e0⟩ | rfl
      · rw [e0] at hK
        exact ⟨_, .tup2 (.frz _ _ (.nil 1)) (.cl rfl), rfl, hK⟩
      · exact ⟨_, .cl rfl, rfl, hK⟩
    · rw [decide_eq_false h, atomsOf_nil h] at hK
      exact ⟨_, .tup2 (.frz _ _ (.nil 1)) (.cl rfl), rfl, hK⟩
end Go.Proofs.Ytmpbbjdkpdakeaa

set_option linter.unusedVariables false
set_option linter.unusedSimpArgs false
namespace Go.Proofs.Ytmpbbjdkpdakeaa
open Go.Abs Go.IntWalk
set_option maxRecDepth 100000
attribute [local go_sem] eI eU eS cS eSs take_map
theorem cS_len : ∀ {t : List PSaid}, (t.flatMap cS).length = t.length * 2
  | [] => rfl
  | a :: t => by rw [List.flatMap_cons, List.length_append, cS_len, List.length_cons]; simp [cS]; omega
/-- The law of AtomsIn: true, whatever it is given. -/
theorem c_lawAtomsIn {f : List PSaid} (hfl : f.length ≤ 9223372036854775807) : ACall Try.prog 8 [eSs f] H0 fun r _ => r = .bool true := by
  refine call8 (by simp) ?_
  simp only [Try.results8, Try.ntmps8, Try.f8, Option.getD_some, pl8]
  simp only [go_sem]
  refine c_szSaidS (t := f) (by omega) (by omega) hfl fun r hr => ?_
  by_cases h1 : r < 0
  · simp only [go_sem, h1, decide_true]
  · simp only [go_sem, h1, decide_false]
    obtain ⟨hrl, hsm⟩ := hr (by omega)
    have hl := hsm.1
    refine c_toSaidS (t := f) hsm ?_
    simp only [go_sem]
    refine c_atomsS (f := f) hl ?_
    simp only [go_sem]
    have hsl : (atomsOf f).length ≤ 1000 := atomsOf_len
    have hnil : ¬ goodF f → atomsOf f = [] := fun h => atomsOf_nil h
    refine o_toSaidS (t := f) 1000001 (by omega) hsm ⟨0, rfl⟩ fun ver0 => ?_
    simp only [go_sem]
    refine lendL (e := 1000000) (v0 := 0) (args' := [eSs f]) (ok := goodF f) (res := atomsOf f) (by simp only [go_sem]; rfl) (.cons _ _ _ _ (.frz _ _ (frS (by simp) (by simp only [go_sem]))) .nil) (k_atomsI (f := f) hl rfl) (fun hs ver => ?_) fun hs => ?_
    · have hn0 : ¬ (1 + ((atomsOf f).length : Int)) < 0 := by omega
      simp only [go_sem, hs]
      refine l_eqIntS (a := atomsOf f) (b := atomsOf f) (frI (T := 3) rfl (by simp only [go_sem])) (.cl _ rfl) (by omega) (by omega) ?_
      simp only [go_sem, hs, decide_true]
      refine c_toSaidS (t := f) hsm ?_
      simp only [go_sem]
      refine l_eqSaidS (a := f) (b := f) (frS rfl (by simp only [go_sem])) hsm hsm ?_
      simp only [go_sem, decide_true]
      refine o_markSaidS (d := 1000001) (n := f.length) (C := f.flatMap cS) (by omega) (by simp only [go_sem]) cS_len (cl_nodes f) (by omega) (by omega) (by omega) fun k1 C1 _ _ hk1 _ => ?_
      have hk1' : ¬ k1 < 0 := by omega
      simp only [go_sem, hk1']
      refine l_eqIntS (a := atomsOf f) (b := atomsOf f) (frI (T := 3) rfl (by simp only [go_sem])) (.cl _ rfl) (by omega) (by omega) ?_
      simp only [go_sem, hs, decide_true]
      refine o_markIntS (d := 1000000) (C := (atomsOf f).map I64) (by omega) (by simp only [go_sem]) (by simp) (cll_map fun _ => rfl) (by omega) (by omega) (by omega) ?_
      simp only [go_sem]
      refine l_heldIntS (n := (atomsOf f).length) (k := 1) (frC (T := 3) rfl (by simp only [go_sem])) (by omega) (by omega) (by omega) ?_
      simp only [go_sem, hn0]
      refine c_toSaidS (t := f) hsm ?_
      simp only [go_sem]
      refine c_atomsI (f := f) hl ?_
      simp only [go_sem, hs, decide_true]
      refine c_eqIntS (a := atomsOf f) (b := atomsOf f) (by omega) (by omega) ?_
      simp only [go_sem, hs, decide_true]
      refine l_heldIntS (n := (atomsOf f).length) (k := 1) (frC (T := 3) rfl (by simp only [go_sem])) (by omega) (by omega) (by omega) ?_
      simp only [go_sem, hn0]
    · have z0 : 1 + ((0 : Nat) : Int) = 1 := rfl
      have hnil := hnil hs
      simp only [go_sem, hs, hnil]
      refine l_eqIntS (a := []) (b := []) (.nil 1) (.cl _ rfl) (by simp) (by simp) ?_
      simp only [go_sem, hs, hnil, decide_true]
      refine c_toSaidS (t := f) hsm ?_
      simp only [go_sem]
      refine l_eqSaidS (a := f) (b := f) (frS rfl (by simp only [go_sem])) hsm hsm ?_
      simp only [go_sem, decide_true]
      refine o_markSaidS (d := 1000001) (n := f.length) (C := f.flatMap cS) (by omega) (by simp only [go_sem]) cS_len (cl_nodes f) (by omega) (by omega) (by omega) fun k1 C1 _ _ hk1 _ => ?_
      have hk1' : ¬ k1 < 0 := by omega
      simp only [go_sem, hk1']
      refine l_eqIntS (a := []) (b := atomsOf f) (.nil 1) (.cl _ rfl) (by simp) (by omega) ?_
      simp only [go_sem, hs, hnil, decide_true]
      refine n_markIntS ?_
      simp only [go_sem]
      refine l_heldIntS (n := 0) (k := 1) (.nil 1) (by omega) (by omega) (by omega) ?_
      simp only [go_sem, z0]
      refine c_toSaidS (t := f) hsm ?_
      simp only [go_sem]
      refine c_atomsI (f := f) hl ?_
      simp only [go_sem, hs, hnil, decide_true]
      refine c_eqIntS (a := []) (b := []) (by simp) (by simp) ?_
      simp only [go_sem, hs, hnil, decide_true]
      refine l_heldIntS (n := 0) (k := 1) (.nil 1) (by omega) (by omega) (by omega) ?_
      simp only [go_sem, z0]
end Go.Proofs.Ytmpbbjdkpdakeaa
