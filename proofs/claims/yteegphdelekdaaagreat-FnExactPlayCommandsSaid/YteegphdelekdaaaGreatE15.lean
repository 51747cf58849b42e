/- Texts of ours, joined: YteegphdelekdaaaGreatH74 YteegphdelekdaaaGreatH75. -/
import Derived.Test.YteegphdelekdaaaGreatE14
set_option linter.unusedVariables false
set_option linter.unusedSimpArgs false
namespace Go.Proofs.YteegphdelekdaaaGreat
open Go.Abs Go.IntWalk
set_option maxRecDepth 100000
attribute [local go_sem] eI eU eNs eN cN eChs eCh cCh eCos eCo cCo eP take_map eII eUU eBs
/-! Lists of lists of words, lists of yes and no: compared, marked, held. -/
theorem c_eqUU {out : List (List Nat)} (hn : out.length ≤ 1000) (hin : ∀ x ∈ out, x.length ≤ 1048576) {H : Heap} {K : AV → Heap → Prop} (hK : K (.bool true) H) : ACall Tryz.prog 18 [eUU out, eUU out] H K := by
  refine call18 (by simp) ?_
  simp only [Tryz.results18, Tryz.ntmps18, Tryz.f18, Option.getD_some, pl18]
  simp only [go_sem]
  refine ALoop.intro (pl := pl18) (fun k env H' => ∃ i : Nat, H' = H ∧ env 0 = eUU out ∧ env 1 = eUU out ∧ env 5 = I64 i ∧ i + k = out.length) out.length (by kernel_rfl) ?_ ?_
  · simp only [go_sem]
    exact ⟨0, rfl, by omega⟩
  · rintro k env H' ⟨i, rfl, e0, e1, e5, hk⟩
    by_cases hz : (i : Int) < out.length
    · obtain ⟨l, hx⟩ := get_some (l := out) (i := i) (by omega)
      have hw : IntKind.wrap .i64 ((i : Int) + 1) = i + 1 := i64_in _ (by omega)
      have h0 : (0 : Int) ≤ i := by omega
      have hll := hin l (List.mem_of_getElem? hx)
      simp only [go_sem, pl18, e0, e1, e5, hz, hx, h0]
      refine c_eqUint64S (a := l) (b := l) hll hll ?_
      simp only [go_sem, pl18, e0, e1, e5, hz, hx, h0, decide_true, hw]
      exact ⟨k - 1, by omega, i + 1, rfl, by omega⟩
    · simp only [go_sem, pl18, e0, e1, e5, hz]
      exact hK
theorem d_eqUU {o d v n : Nat} {out : List (List Nat)} (hn : out.length = n) (hn2 : n ≤ 1000) (hin : ∀ x ∈ out, x.length ≤ 1048576) {H : Heap} {K : AV → Heap → Prop} (ho : H o = .cells v 26 1 (ucells d H out)) (ha : atU d H out) (hK : K (.bool true) H) : ACall Tryz.prog 18 [.ref o v 0 n, eUU out] H K := by
  subst hn
  refine call18 (by simp) ?_
  simp only [Tryz.results18, Tryz.ntmps18, Tryz.f18, Option.getD_some, pl18]
  have hul : (ucells d H out).length = out.length := uc_len
  simp only [go_sem, ho, hul]
  refine ALoop.intro (pl := pl18) (fun k env H' => ∃ i : Nat, H' = H ∧ env 0 = .ref o v 0 out.length ∧ env 1 = eUU out ∧ env 5 = I64 i ∧ i + k = out.length) out.length (by kernel_rfl) ?_ ?_
  · simp only [go_sem]
    exact ⟨0, rfl, by omega⟩
  · rintro k env H' ⟨i, rfl, e0, e1, e5, hk⟩
    by_cases hz : (i : Int) < out.length
    · obtain ⟨l, hx⟩ := get_some (l := out) (i := i) (by omega)
      have hw : IntKind.wrap .i64 ((i : Int) + 1) = i + 1 := i64_in _ (by omega)
      have h0 : (0 : Int) ≤ i := by omega
      have hll := hin l (List.mem_of_getElem? hx)
      have hu := uc_get (d := d) (H := H') (out := out) (x := i) (by omega)
      rw [hx, Option.getD_some] at hu
      obtain ⟨vi, hvi⟩ := ha i (by omega)
      rw [hx, Option.getD_some] at hvi
      rw [hvi] at hu
      simp only [Blk.ver] at hu
      simp only [go_sem, pl18, e0, e1, e5, hz, hx, h0, ho, hul, hu]
      refine l_eqUint64S (a := l) (b := l) (frU (T := 73) rfl hvi) (.cl _ rfl) hll hll ?_
      simp only [go_sem, pl18, e0, e1, e5, hz, hx, h0, decide_true, hw]
      exact ⟨k - 1, by omega, i + 1, rfl, by omega⟩
    · simp only [go_sem, pl18, e0, e1, e5, hz, ho, hul]
      exact hK
theorem c_eqBs {F : List Bool} (hn : F.length ≤ 1000) {H : Heap} {K : AV → Heap → Prop} (hK : K (.bool true) H) : ACall Tryz.prog 19 [eBs F, eBs F] H K := by
  refine call19 (by simp) ?_
  simp only [Tryz.results19, Tryz.ntmps19, Tryz.f19, Option.getD_some, pl19]
  simp only [go_sem]
  refine ALoop.intro (pl := pl19) (fun k env H' => ∃ i : Nat, H' = H ∧ env 0 = eBs F ∧ env 1 = eBs F ∧ env 5 = I64 i ∧ i + k = F.length) F.length (by kernel_rfl) ?_ ?_
  · simp only [go_sem]
    exact ⟨0, rfl, by omega⟩
  · rintro k env H' ⟨i, rfl, e0, e1, e5, hk⟩
    by_cases hz : (i : Int) < F.length
    · obtain ⟨l, hx⟩ := get_some (l := F) (i := i) (by omega)
      have hw : IntKind.wrap .i64 ((i : Int) + 1) = i + 1 := i64_in _ (by omega)
      have h0 : (0 : Int) ≤ i := by omega
      have hself : (!(l == l)) = false := by cases l <;> rfl
      simp only [go_sem, pl19, e0, e1, e5, hz, hx, h0, hself, hw]
      exact ⟨k - 1, by omega, i + 1, rfl, by omega⟩
    · simp only [go_sem, pl19, e0, e1, e5, hz]
      exact hK
theorem frBs {F : List Bool} {n : Nat} (hn : F.length = n) {H : Heap} {id ver T : Nat} {β : Nat → Bool} (hb : β id = true) (h : H id = .cells ver T 1 (F.map AV.bool)) : FRes H β anyAV (.ref id ver 0 n) (eBs F) := FRes.map1 (f := AV.bool) (fun _ => rfl) (fun _ => rfl) hn.symm hb h
theorem l_eqBs {F : List Bool} {x : AV} (hn : F.length ≤ 1000) {H : Heap} {K : AV → Heap → Prop} (hx : FRes H (fun _ => true) anyAV x (eBs F)) (hK : K (.bool true) H) : ACall Tryz.prog 19 [x, eBs F] H K :=
  ACall.peek (R := fun r _ => r = .bool true) (c_eqBs hn rfl) (.cons _ _ _ _ (.frz _ _ hx) (.cons _ _ _ _ (.cl rfl) .nil)) fun r H' h => by subst h; exact ⟨rfl, hK⟩
/-- Every third is yes. -/
def mk3 (k : Int) (n : Nat) : List Bool := (List.range n).map fun i => decide ((k + (i : Nat)).tmod 3 = 0)
theorem mk3_len {k : Int} {n : Nat} : (mk3 k n).length = n := by simp [mk3]
theorem mk3_get {k : Int} {n i : Nat} (h : i < n) : (mk3 k n)[i]? = some (decide ((k + (i : Nat)).tmod 3 = 0)) := by simp [mk3, List.getElem?_range h]
theorem o_markBs {o v n : Nat} {C : List AV} {k : Int} {H : Heap} {K : AV → Heap → Prop} (hH : H o = .cells v 4 1 C) (hC : C.length = n) (hn : n ≤ 1000) (hk0 : 0 ≤ k) (hk : k ≤ 1000000)
    (hK : K (I64 (k + n)) (upd H o (.cells v 4 1 ((mk3 k n).map AV.bool)))) : ACall Tryz.prog 27 [.ref o v 0 n, I64 k] H K := by
  refine call27 (by simp) ?_
  simp only [Tryz.results27, Tryz.ntmps27, Tryz.f27, Option.getD_some, pl27]
  simp only [go_sem]
  refine ALoop.intro (pl := pl27) (fun q env H' => ∃ (i : Nat) (C : List AV), env 0 = .ref o v 0 n ∧ env 1 = I64 (k + (i : Nat)) ∧ env 5 = I64 i ∧ H' o = .cells v 4 1 C ∧ (∀ j, j ≠ o → H' j = H j) ∧ i + q = n ∧ C.length = n ∧ C.take i = ((mk3 k n).take i).map AV.bool) n (by kernel_rfl) ?_ ?_
  · simp only [go_sem]
    exact ⟨0, C, by simp, rfl, hH, by omega, hC, rfl⟩
  · rintro q env H' ⟨i, C, e0, e1, e5, bo, hfr, hq, hC, hT⟩
    by_cases hz : (i : Int) < n
    · have h0 : (0 : Int) ≤ i := by omega
      have hw : IntKind.wrap .i64 ((i : Int) + 1) = i + 1 := i64_in _ (by omega)
      have hw1 : IntKind.wrap .i64 (k + (i : Int) + 1) = k + ((i + 1 : Nat) : Int) := by rw [i64_in _ (by omega)]; omega
      simp only [go_sem, pl27, e0, e1, e5, bo, hz, h0, hw, hw1]
      refine ⟨by omega, q - 1, by omega, i + 1, _, rfl, rfl, rfl, fun j hj => ?_, by omega, by rw [List.length_set]; exact hC, ?_⟩
      · rw [if_neg hj]; exact hfr j hj
      · rw [set_take (by omega), hT, take_one (mk3_get (by omega)), List.map_append]; rfl
    · simp only [go_sem, pl27, e0, e1, e5, bo, hz]
      rw [List.take_of_length_le (by omega), List.take_of_length_le (by rw [mk3_len]; omega)] at hT
      have : i = n := by omega
      subst this
      have e : H' = upd H o (.cells v 4 1 ((mk3 k i).map AV.bool)) := by
        funext j
        by_cases hj : j = o
        · subst hj; rw [upd_same, bo, hT]
        · rw [upd_ne _ _ hj, hfr j hj]
      rw [e]; exact hK
theorem c_heldBs {n : Nat} {k : Int} {H : Heap} {K : AV → Heap → Prop} (hn : n ≤ 1000) (hk0 : 0 ≤ k) (hk : k ≤ 1000000) (hK : K (I64 (k + n)) H) : ACall Tryz.prog 29 [eBs (mk3 k n), I64 k] H K := by
  refine call29 (by simp) ?_
  simp only [Tryz.results29, Tryz.ntmps29, Tryz.f29, Option.getD_some, pl29]
  have hl : (mk3 k n).length = n := mk3_len
  simp only [go_sem]
  refine ALoop.intro (pl := pl29) (fun q env H' => ∃ i : Nat, H' = H ∧ env 0 = eBs (mk3 k n) ∧ env 1 = I64 (k + (i : Nat)) ∧ env 5 = I64 i ∧ i + q = n) n (by kernel_rfl) ?_ ?_
  · simp only [go_sem]
    exact ⟨0, by simp, rfl, by omega⟩
  · rintro q env H' ⟨i, rfl, e0, e1, e5, hq⟩
    by_cases hz : (i : Int) < n
    · have h0 : (0 : Int) ≤ i := by omega
      have hx := mk3_get (k := k) (show i < n by omega)
      have hw : IntKind.wrap .i64 ((i : Int) + 1) = i + 1 := i64_in _ (by omega)
      have hw1 : IntKind.wrap .i64 (k + (i : Int) + 1) = k + ((i + 1 : Nat) : Int) := by rw [i64_in _ (by omega)]; omega
      have hself : ∀ l : Bool, (!(l == l)) = false := fun l => by cases l <;> rfl
      simp only [go_sem, pl29, e0, e1, e5, hz, hl, hx, h0, hw, hw1, hself]
      exact ⟨q - 1, by omega, i + 1, rfl, rfl, by omega⟩
    · simp only [go_sem, pl29, e0, e1, e5, hl, hz]
      have : i = n := by omega
      subst this
      exact hK
theorem l_heldBs {n : Nat} {k : Int} {x : AV} (hn : n ≤ 1000) (hk0 : 0 ≤ k) (hk : k ≤ 1000000) {H : Heap} {K : AV → Heap → Prop} (hx : FRes H (fun _ => true) anyAV x (eBs (mk3 k n))) (hK : K (I64 (k + n)) H) : ACall Tryz.prog 29 [x, I64 k] H K :=
  ACall.peek (R := fun r _ => r = I64 (k + n)) (c_heldBs hn hk0 hk rfl) (.cons _ _ _ _ (.frz _ _ hx) (.cons _ _ _ _ (.cl rfl) .nil)) fun r H' h => by subst h; exact ⟨rfl, hK⟩
/-- What is marked. -/
def mkd (d len : Nat) (k : Int) (n : Nat) (H H' : Heap) : Prop := ∀ x, x < n → H' (d + x) = .cells (H (d + x)).ver 73 1 ((cnt (k + ((x * len : Nat) : Int)) len).map uV)
theorem mul_le60 {x len : Nat} (h1 : x ≤ 60) (h2 : len ≤ 4) : x * len ≤ 240 := Nat.le_trans (Nat.mul_le_mul h1 h2) (by omega)
theorem uc_at {o d v n len i : Nat} {out : List (List Nat)} (hn : out.length = n) (hlen : ∀ x ∈ out, x.length = len) {H : Heap} (ha : atU d H out) (hi : i < n) : (ucells d H out)[i]? = some (.ref (d + i) (H (d + i)).ver 0 len) ∧ ∃ l : List Nat, l.length = len ∧ H (d + i) = .cells (H (d + i)).ver 73 1 (l.map U64) := by
  obtain ⟨l, hx⟩ := get_some (l := out) (i := i) (by omega)
  have hu := uc_get (d := d) (H := H) (out := out) (x := i) (by omega)
  rw [hx, Option.getD_some] at hu
  obtain ⟨vi, hvi⟩ := ha i (by omega)
  rw [hx, Option.getD_some] at hvi
  have hl := hlen l (List.mem_of_getElem? hx)
  rw [hl] at hu
  exact ⟨hu, l, hl, by rw [hvi]; rfl⟩
theorem o_markUU {o d v n len : Nat} {out : List (List Nat)} {k : Int} (hod : o < d) (hd : 1000000 ≤ d) (hn : out.length = n) (hn2 : n ≤ 60) (hlen : ∀ x ∈ out, x.length = len) (hl4 : len ≤ 4) (hk0 : 0 ≤ k) (hk : k ≤ 1000) {H : Heap} {K : AV → Heap → Prop} (ho : H o = .cells v 26 1 (ucells d H out)) (ha : atU d H out)
    (hK : ∀ H', (∀ j, j < d ∨ d + n ≤ j → H' j = H j) → mkd d len k n H H' → K (I64 (k + ((n * len : Nat) : Int))) H') : ACall Tryz.prog 26 [.ref o v 0 n, I64 k] H K := by
  refine call26 (by simp) ?_
  simp only [Tryz.results26, Tryz.ntmps26, Tryz.f26, Option.getD_some, pl26]
  have hul : (ucells d H out).length = n := by rw [uc_len, hn]
  simp only [go_sem]
  refine ALoop.intro (pl := pl26) (fun q env H' => ∃ i : Nat, env 0 = .ref o v 0 n ∧ env 1 = I64 (k + ((i * len : Nat) : Int)) ∧ env 5 = I64 i ∧ (∀ j, j < d ∨ d + i ≤ j → H' j = H j) ∧ mkd d len k i H H' ∧ i + q = n) n (by kernel_rfl) ?_ ?_
  · simp only [go_sem]
    exact ⟨0, by simp, rfl, (fun x hx => by omega), by omega⟩
  · rintro q env H' ⟨i, e0, e1, e5, hfr, hm, hq⟩
    have bo := (hfr o (.inl hod)).trans ho
    by_cases hz : (i : Int) < n
    · obtain ⟨hu, l, hll, hvi⟩ := uc_at (o := o) (v := v) hn hlen ha (show i < n by omega)
      have hvi' := (hfr (d + i) (.inr (Nat.le_refl _))).trans hvi
      have h0 : (0 : Int) ≤ i := by omega
      have hw : IntKind.wrap .i64 ((i : Int) + 1) = i + 1 := i64_in _ (by omega)
      have hmul := mul_le60 (x := i) (len := len) (by omega) hl4
      have hsm : (i + 1) * len = i * len + len := Nat.succ_mul i len
      simp only [go_sem, pl26, e0, e1, e5, bo, hz, h0, hul, hu]
      refine o_markUint64S (d := d + i) (n := len) (C := l.map U64) (by omega) hvi' (by rw [List.length_map, hll]) (cll_map fun _ => rfl) (by omega) (by omega) (by omega) ?_
      simp only [go_sem, pl26, e0, e1, e5, hz, h0, hw]
      refine ⟨q - 1, by omega, i + 1, ?_, rfl, fun j hj => ?_, fun x hx => ?_, by omega⟩
      · rw [hsm]
        refine congrArg I64 ?_
        omega
      · rw [if_neg (by omega)]; exact hfr j (by omega)
      · by_cases e : x = i
        · subst e; rw [upd_same]
        · rw [upd_ne _ _ (by omega)]; exact hm x (by omega)
    · simp only [go_sem, pl26, e0, e1, e5, bo, hz, hul]
      have : i = n := by omega
      subst this
      exact hK H' hfr hm
theorem d_heldUU {o d v n len : Nat} {out : List (List Nat)} {k : Int} (hn : out.length = n) (hn2 : n ≤ 60) (hlen : ∀ x ∈ out, x.length = len) (hl4 : len ≤ 4) (hk0 : 0 ≤ k) (hk : k ≤ 1000) {H H1 : Heap} {K : AV → Heap → Prop} (ho : H o = .cells v 26 1 (ucells d H1 out)) (ha : atU d H1 out) (hm : mkd d len k n H1 H)
    (hK : K (I64 (k + ((n * len : Nat) : Int))) H) : ACall Tryz.prog 28 [.ref o v 0 n, I64 k] H K := by
  refine call28 (by simp) ?_
  simp only [Tryz.results28, Tryz.ntmps28, Tryz.f28, Option.getD_some, pl28]
  have hul : (ucells d H1 out).length = n := by rw [uc_len, hn]
  simp only [go_sem]
  refine ALoop.intro (pl := pl28) (fun q env H' => ∃ i : Nat, H' = H ∧ env 0 = .ref o v 0 n ∧ env 1 = I64 (k + ((i * len : Nat) : Int)) ∧ env 5 = I64 i ∧ i + q = n) n (by kernel_rfl) ?_ ?_
  · simp only [go_sem]
    exact ⟨0, by simp, rfl, by omega⟩
  · rintro q env H' ⟨i, rfl, e0, e1, e5, hq⟩
    by_cases hz : (i : Int) < n
    · obtain ⟨hu, l, hll, hvi⟩ := uc_at (o := o) (v := v) hn hlen ha (show i < n by omega)
      have hmi := hm i (by omega)
      have h0 : (0 : Int) ≤ i := by omega
      have hw : IntKind.wrap .i64 ((i : Int) + 1) = i + 1 := i64_in _ (by omega)
      have hmul := mul_le60 (x := i) (len := len) (by omega) hl4
      have hsm : (i + 1) * len = i * len + len := Nat.succ_mul i len
      have hneg : ¬ (k + ((i * len : Nat) : Int) + (len : Int) < 0) := by omega
      simp only [go_sem, pl28, e0, e1, e5, ho, hz, h0, hul, hu]
      refine l_heldUint64S (n := len) (frCu (T := 73) rfl hmi) (by omega) (by omega) (by omega) ?_
      simp only [go_sem, pl28, e0, e1, e5, hz, h0, hw, hneg]
      refine ⟨q - 1, by omega, i + 1, ?_, rfl, by omega⟩
      rw [hsm]
      refine congrArg I64 ?_
      omega
    · simp only [go_sem, pl28, e0, e1, e5, ho, hz, hul]
      have : i = n := by omega
      subst this
      exact hK
end Go.Proofs.YteegphdelekdaaaGreat

set_option linter.unusedVariables false
set_option linter.unusedSimpArgs false
namespace Go.Proofs.YteegphdelekdaaaGreat
open Go.Abs Go.IntWalk
set_option maxRecDepth 100000
attribute [local go_sem] eI eU eNs eN cN eChs eCh cCh eCos eCo cCo eP take_map eII eUU eBs
theorem n_eqUU {H : Heap} {K : AV → Heap → Prop} (hK : K (.bool true) H) : ACall Tryz.prog 18 [.nil, eUU []] H K :=
  ACall.peek (R := fun r _ => r = .bool true) (c_eqUU (out := []) (by simp) (by simp) rfl) (.cons _ _ _ _ (.frz _ _ (.nil 1)) (.cons _ _ _ _ (.cl rfl) .nil)) fun r H' h => by subst h; exact ⟨rfl, hK⟩
theorem n_eqBs {H : Heap} {K : AV → Heap → Prop} (hK : K (.bool true) H) : ACall Tryz.prog 19 [.nil, eBs []] H K := l_eqBs (F := []) (by simp) (.nil 1) hK
theorem n_markUU {k : Int} {H : Heap} {K : AV → Heap → Prop} (hK : K (I64 k) H) : ACall Tryz.prog 26 [.nil, I64 k] H K := by
  refine call26 (by simp) ?_
  simp only [Tryz.results26, Tryz.ntmps26, Tryz.f26, Option.getD_some, pl26]
  simp only [go_sem]
  refine ALoop.intro (pl := pl26) (fun q env H' => H' = H ∧ env 0 = .nil ∧ env 1 = I64 k ∧ env 5 = I64 0) 0 (by kernel_rfl) ?_ ?_
  · simp only [go_sem]
  · rintro q env H' ⟨rfl, e0, e1, e5⟩
    simp only [go_sem, pl26, e0, e1, e5]
    exact hK
theorem n_markBs {k : Int} {H : Heap} {K : AV → Heap → Prop} (hK : K (I64 k) H) : ACall Tryz.prog 27 [.nil, I64 k] H K := by
  refine call27 (by simp) ?_
  simp only [Tryz.results27, Tryz.ntmps27, Tryz.f27, Option.getD_some, pl27]
  simp only [go_sem]
  refine ALoop.intro (pl := pl27) (fun q env H' => H' = H ∧ env 0 = .nil ∧ env 1 = I64 k ∧ env 5 = I64 0) 0 (by kernel_rfl) ?_ ?_
  · simp only [go_sem]
  · rintro q env H' ⟨rfl, e0, e1, e5⟩
    simp only [go_sem, pl27, e0, e1, e5]
    exact hK
theorem n_heldUU {k : Int} {H : Heap} {K : AV → Heap → Prop} (hK : K (I64 k) H) : ACall Tryz.prog 28 [.nil, I64 k] H K := by
  refine call28 (by simp) ?_
  simp only [Tryz.results28, Tryz.ntmps28, Tryz.f28, Option.getD_some, pl28]
  simp only [go_sem]
  refine ALoop.intro (pl := pl28) (fun q env H' => H' = H ∧ env 0 = .nil ∧ env 1 = I64 k ∧ env 5 = I64 0) 0 (by kernel_rfl) ?_ ?_
  · simp only [go_sem]
  · rintro q env H' ⟨rfl, e0, e1, e5⟩
    simp only [go_sem, pl28, e0, e1, e5]
    exact hK
theorem n_heldBs {k : Int} (hk0 : 0 ≤ k) (hk : k ≤ 1000000) {H : Heap} {K : AV → Heap → Prop} (hK : K (I64 k) H) : ACall Tryz.prog 29 [.nil, I64 k] H K :=
  l_heldBs (n := 0) (by omega) hk0 hk (show FRes H (fun _ => true) anyAV .nil (eBs (mk3 k 0)) from .nil 1) (by simpa using hK)
/-- The law of PlayCommands: true, whatever it is given. -/
theorem c_lawPlay {p : PProg} {s : List Nat} {cs : List Int} (hw : wfP p) (hb : bdProgram p) (hs : wfU s) (hsl : s.length ≤ 9223372036854775807) (hcsl : cs.length ≤ 9223372036854775807) : ACall Tryz.prog 3 [eP p, eU s, eI cs] H0 fun r _ => r = .bool true := by
  refine call3 (by simp) ?_
  simp only [Tryz.results3, Tryz.ntmps3, Tryz.f3, Option.getD_some, pl3]
  by_cases h0 : 1048576 < (s.length : Int)
  · simp only [go_sem, h0]
  by_cases h00 : 1048576 < (cs.length : Int)
  · simp only [go_sem, h0, h00]
  have hl : s.length ≤ 1048576 := by omega
  have hcl : cs.length ≤ 1048576 := by omega
  simp only [go_sem, h0, h00]
  refine c_szProgram (x := p) (by omega) (by omega) hb fun r hr => ?_
  by_cases h1 : r < 0
  · simp only [go_sem, h1, decide_true]
  · simp only [go_sem, h1, decide_false]
    obtain ⟨hrl, hsm⟩ := hr (by omega)
    refine c_toProgram (x := p) hsm ?_
    simp only [go_sem]
    refine c_toUint64S (t := s) hl ?_
    simp only [go_sem]
    refine c_toIntS (t := cs) hcl ?_
    simp only [go_sem]
    refine c_playS (p := p) hw hsm hs hl hcl ?_
    delta eUU eBs
    simp only [go_sem]
    refine o_toProgram (p := p) 2000000 (by omega) hsm (fun i h2 h3 => ⟨0, ?_⟩) fun H1 hag1 ha => ?_
    · simp only [upd]
      repeat rw [if_neg (by omega)]
      rfl
    · have hlo1 : ∀ i, i < 2000000 → H1 i = _ := fun i hi => hag1 i (.inl hi)
      simp only [go_sem, hlo1, oP, Nat.reduceLT]
      refine o_toUint64S (t := s) 1000070 (by omega) hl ⟨0, ?_⟩ fun ver0 => ?_
      · simp only [go_sem, hlo1, Nat.reduceLT]
        try rfl
      simp only [go_sem, hlo1, Nat.reduceLT]
      refine o_toIntS (t := cs) 1000071 (by omega) hcl ⟨0, ?_⟩ fun ver1 => ?_
      · simp only [go_sem, hlo1, Nat.reduceLT]
        try rfl
      simp only [go_sem, hlo1, Nat.reduceLT]
      refine m_playI (d := 2000000) (f := 1000070) (g := 1000071) (T0 := 73) (T1 := 3) (H1 := H1) hw hsm hs hl hcl rfl ha (fun i h => by simp only [upd]; repeat rw [if_neg (by omega)]) (by omega) (by simp only [go_sem]) (by omega) (by simp only [go_sem]) (by omega) (fun i h2 h3 => ⟨0, ?_⟩) (fun hok HJ va vb hagJ q1 q2 q3 => ?_) fun hok HJ hagJ => ?_
      · simp only [upd]
        repeat rw [if_neg (by omega)]
        rw [hlo1 i (by omega)]
        simp only [upd]
        repeat rw [if_neg (by omega)]
        rfl
      · have hloJ : ∀ i, i < 1000000 → HJ i = _ := fun i hi => hagJ i (.inl hi)
        have bs : HJ 1000070 = _ := hagJ 1000070 (.inr (by omega))
        have bc : HJ 1000071 = _ := hagJ 1000071 (.inr (by omega))
        simp only [upd, if_true, if_false, Nat.reduceEqDiff] at bs bc
        have hI := plF_I (p := p) rfl hs cs cs.length (Nat.le_refl _)
        rw [List.take_of_length_le (Nat.le_refl _)] at hI
        have h60 := hok.2
        have eO : playO p s cs = (plF p s cs).2.1 := if_pos hok
        have eB : playB p s cs = (plF p s cs).2.2 := if_pos hok
        generalize plF p s cs = X at hI q1 q2 q3 eO eB
        obtain ⟨w, v, _, _, _, _, g3, g4, h5, _⟩ := state_conds hok.1
        simp only [go_sem, hloJ, hlo1, Nat.reduceLT, hok, eO, eB]
        refine d_eqUU (d := 1000002) (out := X.2.1) hI.ln1 (by omega) (fun x hx => by rw [hI.all x hx]; omega) q1 q2 ?_
        simp only [go_sem, hloJ, hlo1, Nat.reduceLT, hok, eO, eB, decide_true]
        refine l_eqBs (F := X.2.2) (by rw [hI.ln2]; omega) (frBs hI.ln2 rfl q3) ?_
        simp only [go_sem, hloJ, hlo1, Nat.reduceLT, hok, eO, eB, decide_true]
        have hcgJ : ∀ i, 2000000 ≤ i → HJ i = H1 i := fun i h => by
          rw [hagJ i (.inr (by omega))]
          simp only [upd]
          repeat rw [if_neg (by omega)]
        refine c_toProgram (x := p) hsm ?_
        simp only [go_sem, hloJ, hlo1, Nat.reduceLT, hok, eO, eB, decide_true]
        refine m_eqProgram (d := 2000000) (p := p) (q := p) (H1 := H1) rfl ha hcgJ hsm hsm ?_
        simp only [go_sem, hloJ, hlo1, Nat.reduceLT, hok, eO, eB, decide_true]
        refine c_toUint64S (t := s) hl ?_
        simp only [go_sem, hloJ, hlo1, Nat.reduceLT, hok, eO, eB, decide_true]
        refine l_eqUint64S (a := s) (b := s) (frU (T := 73) rfl bs) (.cl _ rfl) hl hl ?_
        simp only [go_sem, hloJ, hlo1, Nat.reduceLT, hok, eO, eB, decide_true]
        refine c_toIntS (t := cs) hcl ?_
        simp only [go_sem, hloJ, hlo1, Nat.reduceLT, hok, eO, eB, decide_true]
        refine l_eqIntS (a := cs) (b := cs) (frI (T := 3) rfl bc) (.cl _ rfl) (by omega) (by omega) ?_
        simp only [go_sem, hloJ, hlo1, Nat.reduceLT, hok, eO, eB, decide_true]
        refine m_markProgram (d := 2000000) (p := p) (H1 := H1) rfl ha hcgJ (by omega) hsm (by omega) (by omega) fun k1 H4 hag4 hk1 hk2 => ?_
        have hlo4 : ∀ i, i < 2000000 → H4 i = _ := fun i hi => hag4 i (.inl hi)
        simp only [go_sem, hlo4, hloJ, hlo1, Nat.reduceLT, hok, eO, eB, decide_true]
        refine o_markUint64S (d := 1000070) (n := s.length) (C := s.map U64) (by omega) ((hlo4 _ (by omega)).trans bs) (by simp) (cll_map fun _ => rfl) (by omega) (by omega) (by omega) ?_
        simp only [go_sem, hlo4, hloJ, hlo1, Nat.reduceLT, hok, eO, eB, decide_true]
        refine o_markIntS2 (d := 1000071) (n := cs.length) (C := cs.map I64) (by omega) (by rw [upd_ne _ _ (by omega), hlo4 _ (by omega)]; exact bc) (by simp) (cll_map fun _ => rfl) (by omega) (by omega) (by omega) ?_
        have hk1' : ¬ k1 + (s.length : Int) + (cs.length : Int) < 0 := by omega
        have hc5 : ∀ (a b : Blk) (i : Nat), i < 1000070 → upd (upd H4 1000070 a) 1000071 b i = HJ i := fun a b i hi => by
          rw [upd_ne _ _ (by omega), upd_ne _ _ (by omega), hlo4 _ (by omega)]
        have hlX := hI.ln1
        generalize hH5 : upd (upd H4 1000070 _) 1000071 _ = H5
        have hc6 : ∀ i, i < 1000070 → H5 i = HJ i := fun i hi => by rw [← hH5]; exact hc5 _ _ i hi
        clear hH5 hc5
        have q4 : H5 1000000 = .cells va 26 1 (ucells 1000002 H5 X.2.1) := by rw [hc6 _ (by omega), q1, uc_congr fun x hx => hc6 _ (by omega)]
        have q5 : atU 1000002 H5 X.2.1 := atU_congr (fun x hx => hc6 _ (by omega)) q2
        have q6 := (hc6 1000001 (by omega)).trans q3
        have hlo5 : ∀ i, i < 1000000 → H5 i = _ := fun i hi => (hc6 i (by omega)).trans (hagJ i (.inl hi))
        simp only [go_sem, hlo5, hlo1, Nat.reduceLT, hok, eO, eB, decide_true, hk1']
        refine d_eqUU (d := 1000002) (out := X.2.1) hI.ln1 (by omega) (fun x hx => by rw [hI.all x hx]; omega) q4 q5 ?_
        simp only [go_sem, hlo5, hlo1, Nat.reduceLT, hok, eO, eB, decide_true, hk1']
        refine l_eqBs (F := X.2.2) (by rw [hI.ln2]; omega) (frBs hI.ln2 rfl q6) ?_
        simp only [go_sem, hlo5, hlo1, Nat.reduceLT, hok, eO, eB, decide_true, hk1']
        refine o_markUU (d := 1000002) (o := 1000000) (n := cs.length) (len := s.length) (out := X.2.1) (k := 1) (by omega) (by omega) hI.ln1 h60 hI.all (by omega) (by omega) (by omega) q4 q5 fun H6 hag6 hm6 => ?_
        have hmul := mul_le60 (x := cs.length) (len := s.length) h60 (by omega)
        have q7 := (hag6 1000001 (.inl (by omega))).trans q6
        have q8 := (hag6 1000000 (.inl (by omega))).trans q4
        simp only [go_sem]
        refine o_markBs (o := 1000001) (n := cs.length) (C := X.2.2.map AV.bool) q7 (by rw [List.length_map, hI.ln2]) (by omega) (by omega) (by omega) ?_
        have q9 : upd H6 1000001 (.cells vb 4 1 ((mk3 (1 + ((cs.length * s.length : Nat) : Int)) cs.length).map AV.bool)) 1000000 = .cells va 26 1 (ucells 1000002 H5 X.2.1) := by rw [upd_ne _ _ (by omega), q8]
        have q10 : mkd 1000002 s.length 1 cs.length H5 (upd H6 1000001 (.cells vb 4 1 ((mk3 (1 + ((cs.length * s.length : Nat) : Int)) cs.length).map AV.bool))) := fun x hx => by rw [upd_ne _ _ (by omega)]; exact hm6 x hx
        have q11 : upd H6 1000001 (.cells vb 4 1 ((mk3 (1 + ((cs.length * s.length : Nat) : Int)) cs.length).map AV.bool)) 1000001 = .cells vb 4 1 ((mk3 (1 + ((cs.length * s.length : Nat) : Int)) cs.length).map AV.bool) := upd_same ..
        have hlo7 : ∀ i, i < 1000000 → upd H6 1000001 (.cells vb 4 1 ((mk3 (1 + ((cs.length * s.length : Nat) : Int)) cs.length).map AV.bool)) i = _ := fun i hi => (upd_ne _ _ (by omega)).trans ((hag6 i (.inl (by omega))).trans (hlo5 i hi))
        generalize upd H6 1000001 (.cells vb 4 1 ((mk3 (1 + ((cs.length * s.length : Nat) : Int)) cs.length).map AV.bool)) = H7 at q9 q10 q11 hlo7
        have hn1 : ¬ (1 + ((cs.length * s.length : Nat) : Int) < 0) := by omega
        have hn2 : ¬ (1 + ((cs.length * s.length : Nat) : Int) + (cs.length : Int) < 0) := by omega
        simp only [go_sem, hlo7, hlo1, Nat.reduceLT]
        refine d_heldUU (d := 1000002) (o := 1000000) (n := cs.length) (len := s.length) (out := X.2.1) (k := 1) hI.ln1 h60 hI.all (by omega) (by omega) (by omega) q9 q5 q10 ?_
        simp only [go_sem, hlo7, hlo1, Nat.reduceLT, hn1]
        refine l_heldBs (n := cs.length) (by omega) (by omega) (by omega) (frBs mk3_len rfl q11) ?_
        simp only [go_sem, hlo7, hlo1, Nat.reduceLT, hn1, hn2]
        refine c_toProgram (x := p) hsm ?_
        simp only [go_sem, hlo7, hlo1, Nat.reduceLT]
        refine c_toUint64S (t := s) hl ?_
        simp only [go_sem, hlo7, hlo1, Nat.reduceLT]
        refine c_toIntS (t := cs) hcl ?_
        simp only [go_sem, hlo7, hlo1, Nat.reduceLT]
        refine c_playI (p := p) hw hsm hs hl hcl ?_
        rw [eO, eB]
        delta eUU eBs
        simp only [go_sem, hlo7, hlo1, Nat.reduceLT, hok, decide_true]
        refine c_eqUU (out := X.2.1) (by omega) (fun x hx => by rw [hI.all x hx]; omega) ?_
        simp only [go_sem, hlo7, hlo1, Nat.reduceLT, hok, decide_true]
        refine c_eqBs (F := X.2.2) (by rw [hI.ln2]; omega) ?_
        simp only [go_sem, hlo7, hlo1, Nat.reduceLT, hok, decide_true]
        refine d_heldUU (d := 1000002) (o := 1000000) (n := cs.length) (len := s.length) (out := X.2.1) (k := 1) hI.ln1 h60 hI.all (by omega) (by omega) (by omega) q9 q5 q10 ?_
        simp only [go_sem, hlo7, hlo1, Nat.reduceLT, hn1]
        refine l_heldBs (n := cs.length) (by omega) (by omega) (by omega) (frBs mk3_len rfl q11) ?_
        simp only [go_sem, hlo7, hlo1, Nat.reduceLT, hn1, hn2]
      · have hloJ : ∀ i, i < 1000000 → HJ i = _ := fun i hi => hagJ i (.inl hi)
        have bs : HJ 1000070 = _ := hagJ 1000070 (.inr (by omega))
        have bc : HJ 1000071 = _ := hagJ 1000071 (.inr (by omega))
        simp only [upd, if_true, if_false, Nat.reduceEqDiff] at bs bc
        have eO : playO p s cs = [] := if_neg hok
        have eB : playB p s cs = [] := if_neg hok
        simp only [go_sem, hloJ, hlo1, Nat.reduceLT, hok, eO, eB, decide_true, decide_false]
        refine n_eqUU ?_
        simp only [go_sem, hloJ, hlo1, Nat.reduceLT, hok, eO, eB, decide_true, decide_false]
        refine n_eqBs ?_
        simp only [go_sem, hloJ, hlo1, Nat.reduceLT, hok, eO, eB, decide_true, decide_false]
        have hcgJ : ∀ i, 2000000 ≤ i → HJ i = H1 i := fun i h => by
          rw [hagJ i (.inr (by omega))]
          simp only [upd]
          repeat rw [if_neg (by omega)]
        refine c_toProgram (x := p) hsm ?_
        simp only [go_sem, hloJ, hlo1, Nat.reduceLT, hok, eO, eB, decide_true, decide_false]
        refine m_eqProgram (d := 2000000) (p := p) (q := p) (H1 := H1) rfl ha hcgJ hsm hsm ?_
        simp only [go_sem, hloJ, hlo1, Nat.reduceLT, hok, eO, eB, decide_true, decide_false]
        refine c_toUint64S (t := s) hl ?_
        simp only [go_sem, hloJ, hlo1, Nat.reduceLT, hok, eO, eB, decide_true, decide_false]
        refine l_eqUint64S (a := s) (b := s) (frU (T := 73) rfl bs) (.cl _ rfl) hl hl ?_
        simp only [go_sem, hloJ, hlo1, Nat.reduceLT, hok, eO, eB, decide_true, decide_false]
        refine c_toIntS (t := cs) hcl ?_
        simp only [go_sem, hloJ, hlo1, Nat.reduceLT, hok, eO, eB, decide_true, decide_false]
        refine l_eqIntS (a := cs) (b := cs) (frI (T := 3) rfl bc) (.cl _ rfl) (by omega) (by omega) ?_
        simp only [go_sem, hloJ, hlo1, Nat.reduceLT, hok, eO, eB, decide_true, decide_false]
        refine m_markProgram (d := 2000000) (p := p) (H1 := H1) rfl ha hcgJ (by omega) hsm (by omega) (by omega) fun k1 H4 hag4 hk1 hk2 => ?_
        have hlo4 : ∀ i, i < 2000000 → H4 i = _ := fun i hi => hag4 i (.inl hi)
        simp only [go_sem, hlo4, hloJ, hlo1, Nat.reduceLT, hok, eO, eB, decide_true, decide_false]
        refine o_markUint64S (d := 1000070) (n := s.length) (C := s.map U64) (by omega) ((hlo4 _ (by omega)).trans bs) (by simp) (cll_map fun _ => rfl) (by omega) (by omega) (by omega) ?_
        simp only [go_sem, hlo4, hloJ, hlo1, Nat.reduceLT, hok, eO, eB, decide_true, decide_false]
        refine o_markIntS2 (d := 1000071) (n := cs.length) (C := cs.map I64) (by omega) (by rw [upd_ne _ _ (by omega), hlo4 _ (by omega)]; exact bc) (by simp) (cll_map fun _ => rfl) (by omega) (by omega) (by omega) ?_
        have hk1' : ¬ k1 + (s.length : Int) + (cs.length : Int) < 0 := by omega
        simp only [go_sem, hlo4, hloJ, hlo1, Nat.reduceLT, hok, eO, eB, decide_true, decide_false, hk1']
        refine n_eqUU ?_
        simp only [go_sem, hlo4, hloJ, hlo1, Nat.reduceLT, hok, eO, eB, decide_true, decide_false, hk1']
        refine n_eqBs ?_
        simp only [go_sem, hlo4, hloJ, hlo1, Nat.reduceLT, hok, eO, eB, decide_true, decide_false, hk1']
        refine n_markUU ?_
        simp only [go_sem, hlo4, hloJ, hlo1, Nat.reduceLT, hok, eO, eB, decide_true, decide_false, hk1']
        refine n_markBs ?_
        simp only [go_sem, hlo4, hloJ, hlo1, Nat.reduceLT, hok, eO, eB, decide_true, decide_false, hk1']
        refine n_heldUU ?_
        simp only [go_sem, hlo4, hloJ, hlo1, Nat.reduceLT, hok, eO, eB, decide_true, decide_false, hk1']
        refine n_heldBs (by omega) (by omega) ?_
        simp only [go_sem, hlo4, hloJ, hlo1, Nat.reduceLT, hok, eO, eB, decide_true, decide_false, hk1']
        refine c_toProgram (x := p) hsm ?_
        simp only [go_sem, hlo4, hloJ, hlo1, Nat.reduceLT, hok, eO, eB, decide_true, decide_false, hk1']
        refine c_toUint64S (t := s) hl ?_
        simp only [go_sem, hlo4, hloJ, hlo1, Nat.reduceLT, hok, eO, eB, decide_true, decide_false, hk1']
        refine c_toIntS (t := cs) hcl ?_
        simp only [go_sem, hlo4, hloJ, hlo1, Nat.reduceLT, hok, eO, eB, decide_true, decide_false, hk1']
        refine c_playI (p := p) hw hsm hs hl hcl ?_
        rw [eO, eB]
        delta eUU eBs
        simp only [go_sem, hlo4, hloJ, hlo1, Nat.reduceLT, hok, eO, eB, decide_true, decide_false, hk1']
        refine c_eqUU (out := []) (by simp) (by simp) ?_
        simp only [go_sem, hlo4, hloJ, hlo1, Nat.reduceLT, hok, eO, eB, decide_true, decide_false, hk1']
        refine c_eqBs (F := []) (by simp) ?_
        simp only [go_sem, hlo4, hloJ, hlo1, Nat.reduceLT, hok, eO, eB, decide_true, decide_false, hk1']
        refine n_heldUU ?_
        simp only [go_sem, hlo4, hloJ, hlo1, Nat.reduceLT, hok, eO, eB, decide_true, decide_false, hk1']
        refine n_heldBs (by omega) (by omega) ?_
        simp only [go_sem, hlo4, hloJ, hlo1, Nat.reduceLT, hok, eO, eB, decide_true, decide_false, hk1']
end Go.Proofs.YteegphdelekdaaaGreat
