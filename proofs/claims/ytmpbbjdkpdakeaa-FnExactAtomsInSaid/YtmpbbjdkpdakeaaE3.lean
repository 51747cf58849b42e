/- Texts of ours, joined: YtmpbbjdkpdakeaaS3 YtmpbbjdkpdakeaaS4 YtmpbbjdkpdakeaaS5. -/
import Derived.Test.YtmpbbjdkpdakeaaE1
import Derived.Test.YtmpbbjdkpdakeaaE2
import Derived.Test.YtmpbbjdkpdakeaaLay
set_option linter.unusedVariables false
set_option linter.unusedSimpArgs false
namespace Go.Proofs.Ytmpbbjdkpdakeaa
open Go.Abs Go.IntWalk
set_option maxRecDepth 100000
attribute [local go_sem] eI eU eS cS eSs take_map
theorem l_eqIntS {a b : List Int} {x y : AV} {H : Heap} {K : AV → Heap → Prop} (hx : FRes H (fun _ => true) anyAV x (eI a)) (hy : FRes H (fun _ => true) anyAV y (eI b)) (ha : a.length ≤ 1000000000) (hb : b.length ≤ 1000000000) (hK : K (.bool (decide (a = b))) H) : ACall Try.prog 28 [x, y] H K :=
  ACall.peek (R := fun r _ => r = .bool (decide (a = b))) (c_eqIntS ha hb rfl) (.cons _ _ _ _ (.frz _ _ hx) (.cons _ _ _ _ (.frz _ _ hy) .nil)) fun r H' h => by subst h; exact ⟨rfl, hK⟩
theorem l_heldIntS {n : Nat} {k : Int} {x : AV} {H : Heap} {K : AV → Heap → Prop} (hx : FRes H (fun _ => true) anyAV x (eI (cnt k n))) (hn : n ≤ 1000000000) (hk0 : 0 ≤ k) (hk : k ≤ 1000000) (hK : K (I64 (k + n)) H) : ACall Try.prog 32 [x, I64 k] H K :=
  ACall.peek (R := fun r _ => r = I64 (k + n)) (c_heldIntS hn hk0 hk rfl) (.cons _ _ _ _ (.frz _ _ hx) (.cons _ _ _ _ (.cl rfl) .nil)) fun r H' h => by subst h; exact ⟨rfl, hK⟩
theorem frI {l : List Int} {H : Heap} {id ver T : Nat} {β : Nat → Bool} (hb : β id = true) (h : H id = .cells ver T 1 (l.map I64)) : FRes H β anyAV (.ref id ver 0 l.length) (eI l) := FRes.map1 (f := I64) (fun _ => rfl) (fun _ => rfl) rfl hb h
theorem n_markIntS {k : Int} {H : Heap} {K : AV → Heap → Prop} (hK : K (I64 k) H) : ACall Try.prog 31 [.nil, I64 k] H K := by
  refine ACall.pure (R := fun r _ => r = I64 k) rfl ?_ fun r H' h => by subst h; exact ⟨_, .cl rfl, rfl, hK⟩
  refine call31 (by simp) ?_
  simp only [Try.results31, Try.ntmps31, Try.f31, Option.getD_some, pl31]
  simp only [go_sem]
  refine ALoop.intro (pl := pl31) (fun q env H => env 0 = .nil ∧ env 1 = I64 k ∧ env 5 = I64 0) 0 (by kernel_rfl) ?_ ?_
  · simp only [go_sem]
  · rintro q env H ⟨e0, e1, e5⟩
    simp only [go_sem, e0, e1, e5]
theorem frC {k : Int} {n : Nat} {H : Heap} {id ver T : Nat} {β : Nat → Bool} (hb : β id = true) (h : H id = .cells ver T 1 ((cnt k n).map I64)) : FRes H β anyAV (.ref id ver 0 n) (eI (cnt k n)) := by
  have := frI (l := cnt k n) hb h
  rwa [cnt_len] at this
theorem resI {L : Nat → Bool} {H : Heap} {id ver T n : Nat} {l : List Int} (hn : n = l.length) (hL : L id = false) (h : H id = .cells ver T 1 (l.map I64)) : Res L anyAV H (.ref id ver 0 n) (eI l) := Res.map1 (f := I64) (fun _ => rfl) (fun _ => rfl) hn hL h
theorem compact_len (zs : List Int) : (Go.Lib.compact zs).length ≤ zs.length := by
  unfold Go.Lib.compact Go.Lib.compactUpTo
  rw [List.length_map]
  exact Nat.le_trans (List.length_filter_le _ _) (by simp)
abbrev leI : Int → Int → Bool := fun x y => decide (x ≤ y)
theorem o_sort {id ver n : Nat} {zs : List Int} {H : Heap} {K : AV → Heap → Prop} (hH : H id = .cells ver 3 1 (zs.map I64)) (hn : n = zs.length) (hl : n ≤ 1000000000)
    (hK : K (.tup []) (upd H id (.cells ver 3 1 ((zs.mergeSort leI).map I64)))) : ACall Try.prog 141 [.ref id ver 0 n] H K := by
  refine ACall.inplace (pre := []) (post := []) (zs := zs) (ys := zs.mergeSort leI) (k := 0) (by kernel_rfl) (List.length_mergeSort _) hn false (by omega) ?_ ?_ hH (by simp) rfl (by simpa using hK)
  · intro b o cap w hh hb hc
    exact Any.slices_Sort_int laysSort b o cap zs w hh hb (by omega)
  · intro _ A w
    exact (Any.slices_Sort_int_none laysSort A 0 w).mono fun e w' ⟨h1, h2⟩ => ⟨h1, 0, h2⟩
theorem o_compact {id ver n : Nat} {zs : List Int} {H : Heap} {K : AV → Heap → Prop} (hH : H id = .cells ver 3 1 (zs.map I64)) (hn : n = zs.length) (hl : n ≤ 1000000000)
    (hK : ∀ post, closedL post = true → K (.ref id ver 0 (Go.Lib.compact zs).length) (upd H id (.cells ver 3 1 ((Go.Lib.compact zs).map I64 ++ post)))) : ACall Try.prog 142 [.ref id ver 0 n] H K := by
  have hle := compact_len zs
  refine ACall.inplace (pre := []) (post := []) (zs := zs) (ys := Go.Lib.compact zs ++ List.replicate (zs.length - (Go.Lib.compact zs).length) 0) (k := (Go.Lib.compact zs).length) (by kernel_rfl) ?_ hn true hle ?_ ?_ hH (by simp) rfl ?_
  · rw [List.length_append, List.length_replicate]; omega
  · intro b o cap w hh hb hc
    refine (Any.slices_Compact_int laysCompact b o cap zs w hh (by omega) hc).mono fun e w' h => ?_
    obtain ⟨h1, q, h2⟩ := h
    exact ⟨h1, q, #[], by rw [h2, Go.Sort.grow_empty]⟩
  · intro hz A w
    subst hz
    exact (Any.slices_Compact_int_empty laysCompact A 0 w).mono fun e w' ⟨h1, h2⟩ => ⟨h1, 0, h2⟩
  · have := hK ((List.replicate (zs.length - (Go.Lib.compact zs).length) 0).map I64) (cll_map fun _ => rfl)
    simpa using this
theorem t_compact {id ver n : Nat} {zs : List Int} {H : Heap} {K : AV → Heap → Prop} (hH : H id = .cells ver 3 1 (zs.map I64)) (hn : n = zs.length) (hl : n ≤ 1000000000)
    (hK : K (.ref id ver 0 (Go.Lib.compact zs).length) (upd H id (.cells ver 3 1 ((Go.Lib.compact zs).map I64)))) : ACall Try.prog 142 [.ref id ver 0 n] H K := by
  refine ACall.trim (R := fun r H' => ∃ post, r = .ref id ver 0 (Go.Lib.compact zs).length ∧ H' = upd H id (.cells ver 3 1 ((Go.Lib.compact zs).map I64 ++ post))) (o_compact hH hn hl fun post _ => ⟨post, rfl, rfl⟩) ?_
  rintro r H' ⟨post, rfl, rfl⟩
  refine ⟨id, ver, 3, 1, _, (Go.Lib.compact zs).length, upd_same .., ?_⟩
  rw [List.take_append_of_le_length (by simp), List.take_of_length_le (by simp), upd_upd]
  exact hK
theorem compact_canon (zs : List Int) : Go.Lib.compact (zs.mergeSort leI) = canon zs := compact_sort zs
theorem flI (t : List Int) : (t.map I64).flatMap flat = t.map I64 := flat_map1 (f := I64) (fun _ => rfl) t
theorem scI (t : List Int) : (t.map I64).all AV.scalar = true := sc_map (fun _ => rfl) t
theorem take_end {α : Type} {l : List α} {x : α} {n : Nat} (h : l.length = n) : List.take (n + 1) (l ++ [x]) = l ++ [x] := List.take_of_length_le (by simp [h])
def IsI (a : AV) (l : List Int) : Prop := (a = .nil ∧ l = []) ∨ a = eI l
theorem c_putL {l : List Int} {x : Int} (hl : l.length ≤ 1000000) {H : Heap} {K : AV → Heap → Prop} (hK : K (eI (ins x l)) H) : ACall Try.prog 96 [eI l, I64 x] H K := by
  refine ACall.pure (R := fun r H' => (r = eI (ins x l)) ∨ ∃ v, r = .ref 34 v 0 (ins x l).length ∧ H' 34 = .cells v 3 1 ((ins x l).map I64)) rfl ?_ ?_
  · refine call96 (by simp) ?_
    simp only [Try.results96, Try.ntmps96, Try.f96, Option.getD_some, pl96]
    simp only [go_sem]
    refine ALoop.intro (pl := pl96) (fun k env H => ∃ i : Nat, env 0 = eI l ∧ env 1 = I64 x ∧ env 5 = I64 i ∧ i + k = l.length ∧ ∀ y ∈ l.take i, y < x) l.length (by kernel_rfl) ?_ ?_
    · simp only [go_sem]
      exact ⟨0, by simp⟩
    · rintro k env H ⟨i, e0, e1, e5, hk, ht⟩
      have h0 : (0 : Int) ≤ i := by omega
      have hw : IntKind.wrap .i64 ((i : Int) + 1) = i + 1 := i64_in _ (by omega)
      have hT : List.take i (l.map I64) = (l.take i).map I64 := List.map_take.symm
      have hD : List.drop i (l.map I64) = (l.drop i).map I64 := List.map_drop.symm
      have hti : (l.take i).length = i := by rw [List.length_take]; omega
      have hdi : (l.drop i).length = k := by rw [List.length_drop]; omega
      have hlt : List.take i ((l.take i).map I64) = (l.take i).map I64 := List.take_of_length_le (by rw [List.length_map]; omega)
      have htt : List.take (i + 1) ((l.take i).map I64 ++ [AV.int .i64 x]) = (l.take i).map I64 ++ [AV.int .i64 x] := take_end (by rw [List.length_map, hti])
      by_cases hz : (i : Int) < l.length
      · obtain ⟨y, hy⟩ := get_some (l := l) (i := i) (by omega)
        by_cases hp : y < x
        · simp only [go_sem, pl96, e0, e1, e5, hz, hy, h0, hw, hp]
          refine ⟨k - 1, by omega, i + 1, rfl, by omega, fun z hz => ?_⟩
          rw [take_one hy] at hz
          rcases List.mem_append.1 hz with hz | hz
          · exact ht z hz
          · rw [List.mem_singleton.1 hz]; exact hp
        · have hins := ins_at (n := x) (l := l) (k := i) ht (by omega) (fun z hz => by rw [hy] at hz; cases hz; omega)
          rw [hy] at hins
          by_cases hq : y = x
          · subst hq
            have hpf : ¬ y < y := by omega
            simp only [go_sem, pl96, e0, e1, e5, hz, hy, h0, hw, hpf, decide_false]
            rw [if_pos rfl] at hins
            exact .inl (by rw [hins])
          · rw [if_neg (by simpa using hq)] at hins
            have hq1 : i < l.length := by omega
            have hq2 : (i : Int) ≤ l.length := by omega
            simp only [go_sem, pl96, e0, e1, e5, hz, hy, h0, hw, hp, hq, hq1, hq2, hT, hD, flI, scI, hti, hdi, List.length_map, hlt, htt]
            have hlen : (ins x l).length = i + 1 + k := by rw [hins, List.length_append, List.length_cons, hti, hdi]; omega
            refine ⟨by omega, by omega, by omega, by omega, by omega, .inr ⟨_, by rw [hlen], ?_⟩⟩
            rw [hins, List.map_append, List.map_cons, List.append_assoc]; rfl
      · have hins := ins_at (n := x) (l := l) (k := i) ht (by omega) (fun z hz => by rw [List.getElem?_eq_none (by omega)] at hz; cases hz)
        rw [List.getElem?_eq_none (by omega), if_neg (by simp)] at hins
        have hq2 : (i : Int) ≤ l.length := by omega
        simp only [go_sem, pl96, e0, e1, e5, hz, h0, hw, hq2, hT, hD, flI, scI, hti, hdi, List.length_map, hlt, htt]
        have hlen : (ins x l).length = i + 1 + k := by rw [hins, List.length_append, List.length_cons, hti, hdi]; omega
        refine ⟨by omega, by omega, by omega, by omega, by omega, .inr ⟨_, by rw [hlen], ?_⟩⟩
        rw [hins, List.map_append, List.map_cons, List.append_assoc]; rfl
  · rintro r H' (rfl | ⟨v, rfl, h⟩)
    · exact ⟨_, .cl rfl, rfl, hK⟩
    · exact ⟨_, resI rfl rfl h, rfl, hK⟩
theorem IsI.view {a : AV} {l : List Int} (h : IsI a l) {H : Heap} {L : Nat → Bool} {ρ : Nat → Nat} {β : Nat → Bool} : View H L ρ β a (eI l) := by
  rcases h with ⟨rfl, rfl⟩ | rfl
  · exact .nil 1
  · exact .cl rfl
theorem c_put {a : AV} {l : List Int} {x : Int} (ha : IsI a l) (hl : l.length ≤ 1000000) {H : Heap} {K : AV → Heap → Prop} (hK : K (eI (ins x l)) H) : ACall Try.prog 96 [a, I64 x] H K :=
  ACall.asV (.cons _ _ _ _ ha.view (.cons _ _ _ _ (.cl rfl) .nil)) (c_putL hl rfl) rfl hK
end Go.Proofs.Ytmpbbjdkpdakeaa

set_option linter.unusedVariables false
set_option linter.unusedSimpArgs false
namespace Go.Proofs.Ytmpbbjdkpdakeaa
open Go.Abs Go.IntWalk
set_option maxRecDepth 100000
attribute [local go_sem] eI eU eS cS eSs take_map
theorem pureC {g : FuncId} {args : List AV} {r : AV} {H : Heap} {K : AV → Heap → Prop} (hc : closedL args = true) (hr : r.closed = true) (h : ACall Try.prog g args H0 fun x _ => x = r) (hK : K r H) : ACall Try.prog g args H K :=
  ACall.pure hc h fun r' H' e => by subst e; exact ⟨_, .cl hr, hr, hK⟩
theorem c_in {n lo hi : Int} {H : Heap} {K : AV → Heap → Prop} (hK : K (.bool (decide (lo ≤ n ∧ n ≤ hi))) H) : ACall Try.prog 60 [I64 n, I64 lo, I64 hi] H K := by
  refine pureC rfl rfl ?_ hK
  refine call60 (by simp) ?_
  simp only [Try.results60, Try.ntmps60, Try.f60, Option.getD_some, pl60]
  by_cases h : lo ≤ n
  · simp only [go_sem, h, true_and]
  · simp only [go_sem, h, false_and]
/-! Good formulas. -/
def need (op : Int) : Int := if op = 1 then 0 else if op = 2 then 0 else if op = 3 then 1 else if op = 4 then 1 else if op = 5 then 2 else if op = 6 then 2 else if op = 7 then 2 else if op = 8 then 2 else -1
theorem c_needI {op : Int} {H : Heap} {K : AV → Heap → Prop} (hK : K (I64 (need op)) H) : ACall Try.prog 68 [I64 op] H K := by
  refine pureC rfl rfl ?_ hK
  refine call68 (by simp) ?_
  simp only [Try.results68, Try.ntmps68, Try.f68, Option.getD_some, pl68]
  by_cases h1 : op = 1
  · subst h1
    simp only [go_sem]
    rfl
  · by_cases h2 : op = 2
    · subst h2
      simp only [go_sem]
      rfl
    · by_cases h3 : op = 3
      · subst h3
        simp only [go_sem]
        rfl
      · by_cases h4 : op = 4
        · subst h4
          simp only [go_sem]
          rfl
        · by_cases h5 : op = 5
          · subst h5
            simp only [go_sem]
            rfl
          · by_cases h6 : op = 6
            · subst h6
              simp only [go_sem]
              rfl
            · by_cases h7 : op = 7
              · subst h7
                simp only [go_sem]
                rfl
              · by_cases h8 : op = 8
                · subst h8
                  simp only [go_sem]
                  rfl
                · have e : need op = -1 := by unfold need; rw [if_neg h1, if_neg h2, if_neg h3, if_neg h4, if_neg h5, if_neg h6, if_neg h7, if_neg h8]
                  simp only [go_sem, h1, h2, h3, h4, h5, h6, h7, h8]
                  rw [e]
theorem c_needS {op : Int} {H : Heap} {K : AV → Heap → Prop} (hK : K (I64 (need op)) H) : ACall Try.prog 116 [I64 op] H K := by
  refine pureC rfl rfl ?_ hK
  refine call116 (by simp) ?_
  simp only [Try.results116, Try.ntmps116, Try.f116, Option.getD_some, pl116]
  by_cases h1 : op = 1
  · subst h1
    simp only [go_sem]
    rfl
  · by_cases h2 : op = 2
    · subst h2
      simp only [go_sem]
      rfl
    · by_cases h3 : op = 3
      · subst h3
        simp only [go_sem]
        rfl
      · by_cases h4 : op = 4
        · subst h4
          simp only [go_sem]
          rfl
        · by_cases h5 : op = 5
          · subst h5
            simp only [go_sem]
            rfl
          · by_cases h6 : op = 6
            · subst h6
              simp only [go_sem]
              rfl
            · by_cases h7 : op = 7
              · subst h7
                simp only [go_sem]
                rfl
              · by_cases h8 : op = 8
                · subst h8
                  simp only [go_sem]
                  rfl
                · have e : need op = -1 := by unfold need; rw [if_neg h1, if_neg h2, if_neg h3, if_neg h4, if_neg h5, if_neg h6, if_neg h7, if_neg h8]
                  simp only [go_sem, h1, h2, h3, h4, h5, h6, h7, h8]
                  rw [e]
def okN (x : PSaid) : Prop := (x.1 = 1 → 0 ≤ x.2 ∧ x.2 ≤ 2) ∧ (x.1 = 2 → 0 ≤ x.2 ∧ x.2 ≤ 1) ∧ (x.1 ≠ 1 → x.1 ≠ 2 → x.2 = 0)
instance (x : PSaid) : Decidable (okN x) := by unfold okN; infer_instance
def isS (x : PSaid) : Prop := 0 ≤ need x.1 ∧ okN x
instance (x : PSaid) : Decidable (isS x) := by unfold isS; infer_instance
theorem c_nS {x : PSaid} {H : Heap} {K : AV → Heap → Prop} (hK : K (.bool (decide (okN x))) H) : ACall Try.prog 117 [eS x] H K := by
  refine pureC rfl rfl ?_ hK
  refine call117 (by simp) ?_
  simp only [Try.results117, Try.ntmps117, Try.f117, Option.getD_some, pl117]
  obtain ⟨op, n⟩ := x
  by_cases h1 : op = 1
  · subst h1
    simp only [go_sem]
    refine c_in ?_
    simp only [go_sem]
    exact bE ⟨fun h => ⟨fun _ => h, fun h => absurd h (show ¬ (1 : Int) = 2 by decide), fun h => absurd rfl h⟩, fun h => h.1 rfl⟩
  · by_cases h2 : op = 2
    · subst h2
      simp only [go_sem]
      refine c_in ?_
      simp only [go_sem]
      exact bE ⟨fun h => ⟨fun h => absurd h (show ¬ (2 : Int) = 1 by decide), fun _ => h, fun _ h => absurd rfl h⟩, fun h => h.2.1 rfl⟩
    · simp only [go_sem, h1, h2]
      exact bE ⟨fun h => ⟨fun e => absurd e h1, fun e => absurd e h2, fun _ _ => h⟩, fun h => h.2.2 h1 h2⟩
theorem c_isSI {x : PSaid} {H : Heap} {K : AV → Heap → Prop} (hK : K (.bool (decide (isS x))) H) : ACall Try.prog 115 [eS x] H K := by
  refine pureC rfl rfl ?_ hK
  refine call115 (by simp) ?_
  simp only [Try.results115, Try.ntmps115, Try.f115, Option.getD_some, pl115]
  obtain ⟨op, n⟩ := x
  by_cases h1 : op = 1
  · subst h1
    have hn : need 1 = 0 := rfl
    by_cases h3 : 0 ≤ n
    · simp only [go_sem, h3]
      exact bE ⟨fun h => ⟨by simp [hn], fun _ => ⟨h3, by simp; omega⟩, fun h => absurd h (show ¬ (1 : Int) = 2 by decide), fun h => absurd rfl h⟩, fun h => by have := h.2.1 rfl; simp at this; omega⟩
    · simp only [go_sem, h3]
      exact bF fun h => h3 (h.2.1 rfl).1
  · by_cases h2 : op = 2
    · subst h2
      have hn : need 2 = 0 := rfl
      by_cases h3 : n = 0
      · simp only [go_sem, h3]
        exact bT ⟨by simp [hn], fun h => absurd h (show ¬ (2 : Int) = 1 by decide), fun _ => by simp, fun _ h => absurd rfl h⟩
      · simp only [go_sem, h3]
        exact bE ⟨fun h => ⟨by simp [hn], fun h => absurd h (show ¬ (2 : Int) = 1 by decide), fun _ => by simp; omega, fun _ h => absurd rfl h⟩, fun h => by have := h.2.2.1 rfl; simp at this; omega⟩
    · simp only [go_sem, h1, h2]
      refine c_needI ?_
      by_cases h3 : 0 < need op
      · simp only [go_sem, h1, h2, h3]
        exact bE ⟨fun h => ⟨by show 0 ≤ need op; omega, fun e => absurd e h1, fun e => absurd e h2, fun _ _ => h⟩, fun h => h.2.2.2 h1 h2⟩
      · simp only [go_sem, h1, h2, h3]
        refine bF fun h => ?_
        have h4 := h.1
        have h5 : need op ≠ 0 := by
          unfold need
          rw [if_neg h1, if_neg h2]
          repeat' split
          all_goals omega
        simp only at h4
        omega
end Go.Proofs.Ytmpbbjdkpdakeaa

set_option linter.unusedVariables false
set_option linter.unusedSimpArgs false
namespace Go.Proofs.Ytmpbbjdkpdakeaa
open Go.Abs Go.IntWalk
set_option maxRecDepth 100000
attribute [local go_sem] eI eU eS cS eSs take_map
/-- The pile of values behind some nodes, if they are good. -/
def plStep (s : Option Int) (x : PSaid) : Option Int := match s with
  | none => none
  | some v => if isS x ∧ need x.1 ≤ v then some (v + (1 - need x.1)) else none
def pileOf (f : List PSaid) : Option Int := f.foldl plStep (some 0)
theorem pile_app {f : List PSaid} {x : PSaid} : pileOf (f ++ [x]) = plStep (pileOf f) x := by simp [pileOf, List.foldl_append]
theorem pile_none {f : List PSaid} {i : Nat} (h : pileOf (f.take i) = none) : pileOf f = none := by
  have e : f = f.take i ++ f.drop i := (List.take_append_drop i f).symm
  have key : ∀ l : List PSaid, l.foldl plStep none = none := fun l => by
    induction l with
    | nil => rfl
    | cons x l ih => exact ih
  rw [e, pileOf, List.foldl_append]
  rw [pileOf] at h
  rw [h, key]
def goodF (f : List PSaid) : Prop := (1 ≤ f.length ∧ f.length ≤ 16) ∧ pileOf f = some 1
instance (f : List PSaid) : Decidable (goodF f) := by unfold goodF; infer_instance
theorem need_le {op : Int} : -1 ≤ need op ∧ need op ≤ 2 := by
  unfold need
  repeat' split
  all_goals omega
theorem c_goodI {f : List PSaid} (hl : f.length ≤ 1048576) {H : Heap} {K : AV → Heap → Prop} (hK : K (.bool (decide (goodF f))) H) : ACall Try.prog 67 [eSs f] H K := by
  refine pureC rfl rfl ?_ hK
  refine call67 (by simp) ?_
  simp only [Try.results67, Try.ntmps67, Try.f67, Option.getD_some, pl67]
  by_cases h1 : (f.length : Int) < 1
  · simp only [go_sem, h1]
    exact bF fun h => by have := h.1.1; omega
  by_cases h2 : (16 : Int) < f.length
  · simp only [go_sem, h1, h2]
    exact bF fun h => by have := h.1.2; omega
  simp only [go_sem, h1, h2]
  refine ALoop.intro (pl := pl67) (fun k env H => ∃ (i : Nat) (v : Int), env 3 = I64 v ∧ env 15 = eSs f ∧ env 16 = I64 f.length ∧ env 17 = I64 i ∧ pileOf (f.take i) = some v ∧ (-(i : Int) ≤ v ∧ v ≤ 2 * i) ∧ i + k = f.length) f.length (by kernel_rfl) ?_ ?_
  · simp only [go_sem]
    exact ⟨0, 0, rfl, rfl, rfl, by omega, by omega⟩
  · rintro k env H ⟨i, v, e3, e15, e16, e17, hp, hv, hk⟩
    by_cases hz : (i : Int) < f.length
    · obtain ⟨x, hx⟩ := get_some (l := f) (i := i) (by omega)
      have h0 : (0 : Int) ≤ i := by omega
      have hw : IntKind.wrap .i64 ((i : Int) + 1) = i + 1 := i64_in _ (by omega)
      have hn := need_le (op := x.1)
      have hpa : pileOf (f.take (i + 1)) = plStep (some v) x := by rw [take_one hx, pile_app, hp]
      have hw1 : IntKind.wrap .i64 (1 - need x.1) = 1 - need x.1 := i64_in _ (by omega)
      have hw2 : IntKind.wrap .i64 (v + (1 - need x.1)) = v + (1 - need x.1) := i64_in _ (by omega)
      simp only [go_sem, pl67, e3, e15, e16, e17, hz, hx, h0]
      refine c_needI ?_
      simp only [go_sem, pl67, e3, e15, e16, e17, hz, hx, h0]
      refine c_isSI (x := x) ?_
      by_cases hs : isS x
      · by_cases hnv : v < need x.1
        · simp only [go_sem, pl67, e3, e15, e16, e17, hz, hx, h0, hs, hnv]
          have : pileOf (f.take (i + 1)) = none := by rw [hpa, plStep, if_neg fun h => by have := h.2; omega]
          exact bF fun h => by rw [goodF, pile_none this] at h; exact nomatch h.2
        · simp only [go_sem, pl67, e3, e15, e16, e17, hz, hx, h0, hs, hnv, hw1, hw2, hw]
          have : pileOf (f.take (i + 1)) = some (v + (1 - need x.1)) := by rw [hpa, plStep, if_pos ⟨hs, by omega⟩]
          exact ⟨k - 1, by omega, i + 1, _, rfl, rfl, this, by omega, by omega⟩
      · simp only [go_sem, pl67, e3, e15, e16, e17, hz, hx, h0, hs]
        have : pileOf (f.take (i + 1)) = none := by rw [hpa, plStep, if_neg fun h => hs h.1]
        exact bF fun h => by rw [goodF, pile_none this] at h; exact nomatch h.2
    · simp only [go_sem, pl67, e3, e15, e16, e17, hz]
      rw [List.take_of_length_le (by omega)] at hp
      exact bE ⟨fun h => ⟨by omega, by rw [hp, h]⟩, fun h => by have := h.2; rw [hp] at this; injection this⟩
theorem c_goodS {f : List PSaid} (hl : f.length ≤ 1048576) {H : Heap} {K : AV → Heap → Prop} (hK : K (.bool (decide (goodF f))) H) : ACall Try.prog 69 [eSs f] H K := by
  refine pureC rfl rfl ?_ hK
  refine call69 (by simp) ?_
  simp only [Try.results69, Try.ntmps69, Try.f69, Option.getD_some, pl69]
  simp only [go_sem]
  refine c_in ?_
  by_cases h1 : 1 ≤ (f.length : Int) ∧ (f.length : Int) ≤ 16
  · simp only [go_sem, h1]
    refine ALoop.intro (pl := pl69) (fun k env H => ∃ (i : Nat) (v : Int), env 3 = I64 v ∧ env 11 = eSs f ∧ env 12 = I64 f.length ∧ env 13 = I64 i ∧ pileOf (f.take i) = some v ∧ (-(i : Int) ≤ v ∧ v ≤ 2 * i) ∧ i + k = f.length) f.length (by kernel_rfl) ?_ ?_
    · simp only [go_sem]
      exact ⟨0, 0, rfl, rfl, rfl, by omega, by omega⟩
    · rintro k env H ⟨i, v, e3, e11, e12, e13, hp, hv, hk⟩
      by_cases hz : (i : Int) < f.length
      · obtain ⟨x, hx⟩ := get_some (l := f) (i := i) (by omega)
        have h0 : (0 : Int) ≤ i := by omega
        have hw : IntKind.wrap .i64 ((i : Int) + 1) = i + 1 := i64_in _ (by omega)
        have hn := need_le (op := x.1)
        have hpa : pileOf (f.take (i + 1)) = plStep (some v) x := by rw [take_one hx, pile_app, hp]
        have hw1 : IntKind.wrap .i64 (1 - need x.1) = 1 - need x.1 := i64_in _ (by omega)
        have hw2 : IntKind.wrap .i64 (v + (1 - need x.1)) = v + (1 - need x.1) := i64_in _ (by omega)
        have none_of : pileOf (f.take (i + 1)) = none → AV.bool false = AV.bool (decide (goodF f)) := fun h => bF fun h2 => by rw [goodF, pile_none h] at h2; exact nomatch h2.2
        simp only [go_sem, pl69, e3, e11, e12, e13, hz, hx, h0]
        refine c_needS ?_
        by_cases hneg : need x.1 < 0
        · simp only [go_sem, pl69, e3, e11, e12, e13, hz, hx, h0, hneg]
          exact none_of (by rw [hpa, plStep, if_neg fun h => by have := h.1.1; omega])
        · simp only [go_sem, pl69, e3, e11, e12, e13, hz, hx, h0, hneg]
          refine c_nS (x := x) ?_
          by_cases hs : okN x
          · have hsS : isS x := ⟨by omega, hs⟩
            by_cases hnv : v < need x.1
            · simp only [go_sem, pl69, e3, e11, e12, e13, hz, hx, h0, hneg, hs, hnv]
              exact none_of (by rw [hpa, plStep, if_neg fun h => by have := h.2; omega])
            · simp only [go_sem, pl69, e3, e11, e12, e13, hz, hx, h0, hneg, hs, hnv, hw1, hw2, hw]
              have : pileOf (f.take (i + 1)) = some (v + (1 - need x.1)) := by rw [hpa, plStep, if_pos ⟨hsS, by omega⟩]
              exact ⟨k - 1, by omega, i + 1, _, rfl, rfl, this, by omega, by omega⟩
          · simp only [go_sem, pl69, e3, e11, e12, e13, hz, hx, h0, hneg, hs]
            exact none_of (by rw [hpa, plStep, if_neg fun h => hs h.1.2])
      · simp only [go_sem, pl69, e3, e11, e12, e13, hz]
        rw [List.take_of_length_le (by omega)] at hp
        exact bE ⟨fun h => ⟨by omega, by rw [hp, h]⟩, fun h => by have := h.2; rw [hp] at this; injection this⟩
  · simp only [go_sem, h1]
    exact bF fun h => h1 ⟨by have := h.1.1; omega, by have := h.1.2; omega⟩
end Go.Proofs.Ytmpbbjdkpdakeaa
